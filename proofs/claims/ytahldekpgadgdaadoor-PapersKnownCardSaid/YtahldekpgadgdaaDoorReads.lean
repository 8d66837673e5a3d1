/- All readings of words. -/
import Derived.Test.YtahldekpgadgdaaDoorSmall
set_option linter.all false

namespace Go.Pp
open Go Go.Ev Go.Proofs Go.RowKit

def factOf (n : Nat) : List W → Option Nat
  | [[c]] => if 97 ≤ c.toNat ∧ c.toNat - 97 < n then some (c.toNat - 97) else none
  | _ => none

def pairsOf (o : Op) (A B : List Rd) : List Rd := A.flatMap fun a => B.map fun b => .bin o a b
def rdStep (f : List W → List Rd) (ws : List W) (i : Nat) : List Rd :=
  if i = 0 ∨ i + 1 = ws.length then [] else
    match opOf (ws.getD i []) with
    | none => []
    | some o => pairsOf o (f (ws.take i)) (f (ws.drop (i + 1)))
def rdNot (f : List W → List Rd) (ws : List W) : List Rd := if 1 < ws.length ∧ ws.getD 0 [] = wNot then (f (ws.drop 1)).map .no else []
def rdPre (f : List W → List Rd) (ws : List W) (i : Nat) : List Rd := rdNot f ws ++ (List.range i).flatMap (rdStep f ws)

/-- All readings of some words, over so many facts. -/
def rdg (n : Nat) : Nat → List W → List Rd
  | 0, _ => []
  | k + 1, ws =>
    match factOf n ws with
    | some m => [.fact m]
    | none => rdPre (rdg n k) ws ws.length

def mo : Nat → Nat → Nat
  | 0, _ => 0
  | k + 1, l => if l ≤ 1 then 1 else mo k (l - 1) + ((List.range l).map fun i => if i = 0 ∨ i + 1 = l then 0 else mo k i * mo k (l - (i + 1))).sum

theorem mo_le : ∀ k, k ≤ 9 → ∀ l, l ≤ 9 → mo k l ≤ 323 := by decide +kernel

theorem flatMap_len {α β : Type} (g : α → List β) (c : Nat) : ∀ l : List α, (∀ x ∈ l, (g x).length ≤ c) → (l.flatMap g).length ≤ l.length * c
  | [], _ => by simp
  | a :: l, h => by
    have h1 := flatMap_len g c l (fun x hx => h x (by simp [hx]))
    have h2 := h a (by simp)
    simp only [List.flatMap_cons, List.length_append, List.length_cons]
    rw [Nat.add_mul]
    omega
theorem sum_map_le {α : Type} (f g : α → Nat) : ∀ l : List α, (∀ x ∈ l, f x ≤ g x) → (l.map f).sum ≤ (l.map g).sum
  | [], _ => by simp
  | a :: l, h => by
    have h1 := sum_map_le f g l (fun x hx => h x (by simp [hx]))
    have h2 := h a (by simp)
    simp only [List.map_cons, List.sum_cons]
    omega
theorem pairs_len (o : Op) (A B : List Rd) : (pairsOf o A B).length = A.length * B.length := by
  unfold pairsOf
  induction A with
  | nil => simp
  | cons a A ih =>
    rw [List.flatMap_cons, List.length_append, ih, List.length_map, List.length_cons, Nat.add_mul]
    omega

theorem factOf_len {n : Nat} {ws : List W} {m : Nat} (h : factOf n ws = some m) : ws.length = 1 ∧ m < n := by
  unfold factOf at h
  split at h
  · split at h
    · injection h with h; subst h; rename_i h; exact ⟨rfl, h.2⟩
    · cases h
  · cases h

theorem rdg_len (n : Nat) : ∀ (k : Nat) (ws : List W), (rdg n k ws).length ≤ mo k ws.length
  | 0, ws => by simp [rdg]
  | k + 1, ws => by
    simp only [rdg]
    split
    · rename_i m hm
      simp [mo, (factOf_len hm).1]
    · simp only [mo]
      split
      · rename_i h1
        have : rdPre (rdg n k) ws ws.length = [] := by
          have h2 : rdNot (rdg n k) ws = [] := by simp [rdNot]; omega
          simp only [rdPre, h2, List.nil_append]
          rw [List.flatMap_eq_nil_iff]
          intro i hi
          simp at hi
          have : i = 0 := by omega
          simp [rdStep, this]
        rw [this]
        simp
      · simp only [rdPre, List.length_append, List.length_flatMap]
        have h1 : (rdNot (rdg n k) ws).length ≤ mo k (ws.length - 1) := by
          unfold rdNot
          split
          · have := rdg_len n k (ws.drop 1)
            simpa using this
          · simp
        refine Nat.add_le_add h1 (sum_map_le _ _ _ fun i hi => ?_)
        simp at hi
        unfold rdStep
        split
        · simp
        · split
          · simp
          · rw [pairs_len]
            have h2 := rdg_len n k (ws.take i)
            have h3 := rdg_len n k (ws.drop (i + 1))
            rw [List.length_take, Nat.min_eq_left (by omega)] at h2
            rw [List.length_drop] at h3
            exact Nat.mul_le_mul h2 h3

theorem rdg_small {n k : Nat} {ws : List W} (hk : k ≤ 9) (hw : ws.length ≤ 9) : (rdg n k ws).length ≤ 323 := Nat.le_trans (rdg_len n k ws) (mo_le k hk _ hw)

@[simp] def ob (L : List Rd) : Objs := [(5, AO.arr 69 1 (emb (L.map fun r => [enc r])) 0)]
theorem pairs_succ (o : Op) (A B : List Rd) (j : Nat) (hj : j < A.length) : pairsOf o (A.take (j + 1)) B = pairsOf o (A.take j) B ++ B.map (Rd.bin o A[j]) := by
  rw [List.take_succ_eq_append_getElem hj]
  simp only [pairsOf, List.flatMap_append, List.flatMap_cons, List.flatMap_nil, List.append_nil]

section
variable {K : World → Prop} {r : IV}

theorem inner64 (o : Op) (w : W) (hw : w = o.word) (a : Rd) (X0 X1 X11 X68 X69 X70 X109 X110 X111 : IV) (B L : List Rd) (kk : List AI) (hb : L.length + B.length ≤ 1000000000)
    (h : LoopF Tryd.prog K (RetIs [ARes.tmp 4] r) c64_b1 [0, 1, 5, 10, 11, 13, 68, 69, 70, 109, 110, 111, 115, 116, 117] [5] kk
      [(0, .iv X0), (1, .iv X1), (5, AV.aref 5 (L ++ B.map (Rd.bin o a)).length), (10, AV.iv (.str w)), (11, .iv X11), (13, AV.iv (enc a)), (68, .iv X68), (69, .iv X69), (70, .iv X70), (109, .iv X109), (110, .iv X110), (111, .iv X111), (115, AV.iv (rds B)), (116, AV.iv (.int .i64 (B.length : Nat))), (117, AV.iv (.int .i64 (B.length : Nat)))] (ob (L ++ B.map (Rd.bin o a)))) :
    LoopF Tryd.prog K (RetIs [ARes.tmp 4] r) c64_b1 [0, 1, 5, 10, 11, 13, 68, 69, 70, 109, 110, 111, 115, 116, 117] [5] kk
      [(0, .iv X0), (1, .iv X1), (5, AV.aref 5 L.length), (10, AV.iv (.str w)), (11, .iv X11), (13, AV.iv (enc a)), (68, .iv X68), (69, .iv X69), (70, .iv X70), (109, .iv X109), (110, .iv X110), (111, .iv X111), (115, AV.iv (rds B)), (116, AV.iv (.int .i64 (B.length : Nat))), (117, AV.iv (.int .i64 0))] (ob L) := by
  have := loop_up (P := Tryd.prog) (K := K) (F := RetIs [ARes.tmp 4] r) (c := c64_b1) (ks := [0, 1, 5, 10, 11, 13, 68, 69, 70, 109, 110, 111, 115, 116, 117]) (ids := [5]) (k := kk)
    (fun m => [(0, .iv X0), (1, .iv X1), (5, AV.aref 5 (L ++ (B.take m).map (Rd.bin o a)).length), (10, AV.iv (.str w)), (11, .iv X11), (13, AV.iv (enc a)), (68, .iv X68), (69, .iv X69), (70, .iv X70), (109, .iv X109), (110, .iv X110), (111, .iv X111), (115, AV.iv (rds B)), (116, AV.iv (.int .i64 (B.length : Nat))), (117, AV.iv (.int .i64 (m : Nat)))])
    (fun m => ob (L ++ (B.take m).map (Rd.bin o a))) B.length (by rw [List.take_length]; exact h) (fun i hi ih => ?_)
  · simpa using this
  · have e1 : L ++ (B.take (i + 1)).map (Rd.bin o a) = (L ++ (B.take i).map (Rd.bin o a)) ++ [Rd.bin o a B[i]] := by
      rw [List.take_succ_eq_append_getElem hi, List.map_append, ← List.append_assoc]
      rfl
    have e2 : (L ++ (B.take i).map (Rd.bin o a)).length ≤ 1000000000 := by
      simp
      omega
    rw [e1] at ih
    generalize L ++ (B.take i).map (Rd.bin o a) = Y at *
    rw [LoopAt_enter c64_b1.eq_1]
    simp [encC, ← hw] at ih
    simp [hi]
    exact ⟨by omega, by omega, ih⟩

theorem mid64 (o : Op) (w : W) (hw : w = o.word) (X0 X1 X68 X69 X70 : IV) (A B L : List Rd) (kk : List AI) (hA : A.length ≤ 323) (hB : B.length ≤ 323) (hL : L.length ≤ 9000000)
    (h : LoopF Tryd.prog K (RetIs [ARes.tmp 4] r) c64_b2 [0, 1, 5, 10, 11, 68, 69, 70, 109, 110, 111] [5] kk
      [(0, .iv X0), (1, .iv X1), (5, AV.aref 5 (L ++ pairsOf o A B).length), (10, AV.iv (.str w)), (11, .iv (rds B)), (68, .iv X68), (69, .iv X69), (70, .iv X70), (109, .iv (rds A)), (110, AV.iv (.int .i64 (A.length : Nat))), (111, AV.iv (.int .i64 (A.length : Nat)))] (ob (L ++ pairsOf o A B))) :
    LoopF Tryd.prog K (RetIs [ARes.tmp 4] r) c64_b2 [0, 1, 5, 10, 11, 68, 69, 70, 109, 110, 111] [5] kk
      [(0, .iv X0), (1, .iv X1), (5, AV.aref 5 L.length), (10, AV.iv (.str w)), (11, .iv (rds B)), (68, .iv X68), (69, .iv X69), (70, .iv X70), (109, .iv (rds A)), (110, AV.iv (.int .i64 (A.length : Nat))), (111, AV.iv (.int .i64 0))] (ob L) := by
  have := loop_up (P := Tryd.prog) (K := K) (F := RetIs [ARes.tmp 4] r) (c := c64_b2) (ks := [0, 1, 5, 10, 11, 68, 69, 70, 109, 110, 111]) (ids := [5]) (k := kk)
    (fun m => [(0, .iv X0), (1, .iv X1), (5, AV.aref 5 (L ++ pairsOf o (A.take m) B).length), (10, AV.iv (.str w)), (11, .iv (rds B)), (68, .iv X68), (69, .iv X69), (70, .iv X70), (109, .iv (rds A)), (110, AV.iv (.int .i64 (A.length : Nat))), (111, AV.iv (.int .i64 (m : Nat)))])
    (fun m => ob (L ++ pairsOf o (A.take m) B)) A.length (by rw [List.take_length]; exact h) (fun i hi ih => ?_)
  · simpa [pairsOf] using this
  · have e2 : (L ++ pairsOf o (A.take i) B).length ≤ 100000000 := by
      rw [List.length_append, pairs_len, List.length_take, Nat.min_eq_left (by omega)]
      have := Nat.mul_le_mul (show i ≤ 323 by omega) hB
      omega
    rw [pairs_succ o A B i hi, ← List.append_assoc] at ih
    generalize L ++ pairsOf o (A.take i) B = Y at *
    rw [LoopAt_enter c64_b2.eq_1]
    simp [hi]
    intro _
    have := inner64 (K := K) (r := r) o w hw A[i] X0 X1 (rds B) X68 X69 X70 (rds A) (.int .i64 (A.length : Nat)) (.int .i64 (i : Nat)) B Y
      (AI.inBlock 6 :: .inBlock 5 :: .code (.ops c64_r26 false) :: .inLoop c64_b2 [0, 1, 5, 10, 11, 68, 69, 70, 109, 110, 111] [5] :: kk) (by omega) ?_
    · simpa using this
    · rw [LoopAt_enter c64_b1.eq_1]
      simp at ih ⊢
      exact ⟨by omega, ih⟩

theorem not64 (X0 X1 : IV) (A : List Rd) (kk : List AI) (hA : A.length ≤ 323)
    (h : LoopF Tryd.prog K (RetIs [ARes.tmp 4] r) c64_b0 [0, 1, 5, 55, 56, 57] [5] kk
      [(0, .iv X0), (1, .iv X1), (5, AV.aref 5 (A.map Rd.no).length), (55, .iv (rds A)), (56, AV.iv (.int .i64 (A.length : Nat))), (57, AV.iv (.int .i64 (A.length : Nat)))] (ob (A.map Rd.no))) :
    LoopF Tryd.prog K (RetIs [ARes.tmp 4] r) c64_b0 [0, 1, 5, 55, 56, 57] [5] kk
      [(0, .iv X0), (1, .iv X1), (5, AV.aref 5 0), (55, .iv (rds A)), (56, AV.iv (.int .i64 (A.length : Nat))), (57, AV.iv (.int .i64 0))] (ob []) := by
  have := loop_up (P := Tryd.prog) (K := K) (F := RetIs [ARes.tmp 4] r) (c := c64_b0) (ks := [0, 1, 5, 55, 56, 57]) (ids := [5]) (k := kk)
    (fun m => [(0, .iv X0), (1, .iv X1), (5, AV.aref 5 ((A.take m).map Rd.no).length), (55, .iv (rds A)), (56, AV.iv (.int .i64 (A.length : Nat))), (57, AV.iv (.int .i64 (m : Nat)))])
    (fun m => ob ((A.take m).map Rd.no)) A.length (by rw [List.take_length]; exact h) (fun i hi ih => ?_)
  · simpa using this
  · have e1 : (A.take (i + 1)).map Rd.no = (A.take i).map Rd.no ++ [Rd.no A[i]] := by
      rw [List.take_succ_eq_append_getElem hi, List.map_append]
      rfl
    have e2 : ((A.take i).map Rd.no).length ≤ 323 := by
      simp
      omega
    rw [e1] at ih
    generalize (A.take i).map Rd.no = Y at *
    rw [LoopAt_enter c64_b0.eq_1]
    simp [encC, wNot] at ih
    simp [hi]
    exact ⟨by omega, by omega, ih⟩

variable (hK : ∀ w w', K w → Below w.heap.size w w' → K w')
include hK
theorem good64 (n : Nat) (hn : n ≤ 6) : ∀ (k : Nat), k ≤ 9 → ∀ ws : List W, ws.length ≤ k → Good Tryd.prog K 64 [strs ws, .int .i64 n] (rds (rdg n k ws))
  | 0, _, ws, hw => by
    have : ws = [] := List.length_eq_zero_iff.1 (by omega)
    subst this
    refine good_of_wp hK c64_ok (by simp) ?_
    simp [rdg]
    rw [LoopAt_enter c64_b3.eq_1]
    simp
  | k + 1, hk, ws, hw => by
    have IH := good64 n hn k (by omega)
    have small : ∀ ws : List W, ws.length ≤ k → (rdg n k ws).length ≤ 323 := fun ws h => rdg_small (by omega) (by omega)
    refine good_of_wp hK c64_ok (by simp) ?_
    generalize hf : rdg n k = f at *
    have outer : LoopF Tryd.prog K (RetIs [ARes.tmp 4] (rds (rdPre f ws ws.length))) c64_b3 [0, 1, 5, 68, 69, 70] [5] [AI.inBlock 2, AI.code (.seq (.ops c64_r28 false) .ret)]
        [(0, .iv (strs ws)), (1, .iv (.int .i64 n)), (5, .aref 5 (rdNot f ws).length), (68, .iv (strs ws)), (69, .iv (.int .i64 (ws.length : Nat))), (70, .iv (.int .i64 0))] (ob (rdNot f ws)) := by
      have := loop_up (P := Tryd.prog) (K := K) (F := RetIs [ARes.tmp 4] (rds (rdPre f ws ws.length))) (c := c64_b3) (ks := [0, 1, 5, 68, 69, 70]) (ids := [5]) (k := [AI.inBlock 2, AI.code (.seq (.ops c64_r28 false) .ret)])
        (fun i => [(0, .iv (strs ws)), (1, .iv (.int .i64 n)), (5, .aref 5 (rdPre f ws i).length), (68, .iv (strs ws)), (69, .iv (.int .i64 (ws.length : Nat))), (70, .iv (.int .i64 (i : Nat)))])
        (fun i => ob (rdPre f ws i)) ws.length ?_ (fun i hi ih => ?_)
      · simpa [rdPre] using this
      · rw [LoopAt_enter c64_b3.eq_1]
        simp
      · have e1 : rdPre f ws (i + 1) = rdPre f ws i ++ rdStep f ws i := by
          simp [rdPre, List.range_succ]
        have e2 : (rdPre f ws i).length ≤ 8000000 := by
          have h1 : (rdNot f ws).length ≤ 323 := by
            unfold rdNot
            split
            · rw [List.length_map]
              exact small _ (by simp; omega)
            · simp
          have h2 : ((List.range i).flatMap (rdStep f ws)).length ≤ i * (323 * 323) := by
            refine Nat.le_trans (flatMap_len _ (323 * 323) _ fun x hx => ?_) (by simp)
            simp at hx
            unfold rdStep
            split
            · simp
            · split
              · simp
              · rw [pairs_len]
                exact Nat.mul_le_mul (small _ (by simp; omega)) (small _ (by simp; omega))
          simp only [rdPre, List.length_append]
          omega
        rw [e1] at ih
        generalize rdPre f ws i = Y at *
        rw [LoopAt_enter c64_b3.eq_1]
        have skip : rdStep f ws i = [] → LoopF Tryd.prog K (RetIs [ARes.tmp 4] (rds (rdPre f ws ws.length))) c64_b3 [0, 1, 5, 68, 69, 70] [5] [AI.inBlock 2, AI.code (.seq (.ops c64_r28 false) .ret)]
            [(0, .iv (strs ws)), (1, .iv (.int .i64 n)), (5, .aref 5 Y.length), (68, .iv (strs ws)), (69, .iv (.int .i64 (ws.length : Nat))), (70, .iv (.int .i64 ((i : Int) + 1)))] (ob Y) := by
          intro h
          rw [h] at ih
          simpa using ih
        have go : ∀ o : Op, ws[i] = o.word → ¬ i = 0 → ¬ i + 1 = ws.length → LoopF Tryd.prog K (RetIs [ARes.tmp 4] (rds (rdPre f ws ws.length))) c64_b2 [0, 1, 5, 10, 11, 68, 69, 70, 109, 110, 111] [5]
            [.inBlock 4, .inBlock 3, .code (.ops c64_r27 false), .inLoop c64_b3 [0, 1, 5, 68, 69, 70] [5], AI.inBlock 2, AI.code (.seq (.ops c64_r28 false) .ret)]
            [(0, .iv (strs ws)), (1, .iv (.int .i64 n)), (5, .aref 5 Y.length), (10, .iv (.str ws[i])), (11, .iv (rds (f (ws.drop (i + 1))))), (68, .iv (strs ws)), (69, .iv (.int .i64 (ws.length : Nat))), (70, .iv (.int .i64 (i : Nat))),
              (109, .iv (rds (f (ws.take i)))), (110, .iv (.int .i64 ((f (ws.take i)).length : Nat))), (111, .iv (.int .i64 0))] (ob Y) := by
          intro o ho c0 c1
          have e3 : rdStep f ws i = pairsOf o (f (ws.take i)) (f (ws.drop (i + 1))) := by
            have : opOf ws[i] = some o := by rw [ho]; cases o <;> rfl
            simp [rdStep, c0, c1, hi, this]
          rw [e3] at ih
          refine mid64 o ws[i] ho (strs ws) (.int .i64 n) (strs ws) (.int .i64 (ws.length : Nat)) (.int .i64 (i : Nat)) _ _ Y _ (small _ (by simp; omega)) (small _ (by simp; omega)) (by omega) ?_
          rw [LoopAt_enter c64_b2.eq_1]
          simp at ih ⊢
          exact ⟨by omega, ih⟩
        have hst : ∀ o : Op, ws[i] = o.word → f (ws.drop (i + 1)) = [] → rdStep f ws i = [] := by
          intro o ho he
          have : opOf ws[i] = some o := by rw [ho]; cases o <;> rfl
          simp [rdStep, hi, this, he, pairsOf]
        simp [hi]
        refine ⟨fun c0 hl => ⟨by omega, fun c1 => ⟨fun ca => ⟨fun co => ⟨fun ci => ?s1, fun ci => ⟨by omega, by omega, fun _ => ?g1⟩⟩, fun co => ⟨by omega, by omega, fun _ => ?g2⟩⟩, fun ca => ⟨by omega, by omega, fun _ => ?g3⟩⟩, fun c1 => ?s2⟩, fun c0 => ?s3⟩
        case s1 =>
          refine ⟨by omega, skip ?_⟩
          have : opOf ws[i] = none := by simp [opOf, ca, co, ci]
          simp [rdStep, hi, this]
        case s2 =>
          have c1' : i + 1 = ws.length := by omega
          exact ⟨by omega, skip (by simp [rdStep, c1'])⟩
        case s3 => exact ⟨by omega, skip (by simp [rdStep, c0])⟩
        case g1 =>
          rw [← List.map_drop]
          refine callK_of (IH (ws.drop (i + 1)) (by simp; omega)) (by simp) ?_
          simp
          intro _
          refine ⟨fun e => ⟨by omega, skip (hst .ifw ci e)⟩, fun e => ⟨by omega, fun _ => ?_⟩⟩
          rw [← List.map_take]
          refine callK_of (IH (ws.take i) (by simp; omega)) (by simp) ?_
          simp
          intro _
          have := go .ifw ci c0 (by omega)
          simpa using this
        case g2 =>
          rw [← List.map_drop]
          refine callK_of (IH (ws.drop (i + 1)) (by simp; omega)) (by simp) ?_
          simp
          intro _
          refine ⟨fun e => ⟨by omega, skip (hst .or co e)⟩, fun e => ⟨by omega, fun _ => ?_⟩⟩
          rw [← List.map_take]
          refine callK_of (IH (ws.take i) (by simp; omega)) (by simp) ?_
          simp
          intro _
          have := go .or co c0 (by omega)
          simpa using this
        case g3 =>
          rw [← List.map_drop]
          refine callK_of (IH (ws.drop (i + 1)) (by simp; omega)) (by simp) ?_
          simp
          intro _
          refine ⟨fun e => ⟨by omega, skip (hst .and ca e)⟩, fun e => ⟨by omega, fun _ => ?_⟩⟩
          rw [← List.map_take]
          refine callK_of (IH (ws.take i) (by simp; omega)) (by simp) ?_
          simp
          intro _
          have := go .and ca c0 (by omega)
          simpa using this
    rcases ws with _ | ⟨w0, _ | ⟨w1, rest⟩⟩
    · have h3 : rdNot f [] = [] := by simp [rdNot]
      rw [h3] at outer
      have h4 : rdg n (k + 1) [] = rdPre f [] 0 := by simp [rdg, factOf, hf]
      rw [h4]
      simp at outer ⊢
      exact outer
    · have h3 : rdNot f [w0] = [] := by simp [rdNot]
      rw [h3] at outer
      have go : factOf n [w0] = none → LoopF Tryd.prog K (RetIs [ARes.tmp 4] (rds (rdg n (k + 1) [w0]))) c64_b3 [0, 1, 5, 68, 69, 70] [5] [AI.inBlock 2, AI.code (.seq (.ops c64_r28 false) .ret)]
        [(0, .iv (strs [w0])), (1, .iv (.int .i64 n)), (5, .aref 5 0), (68, .iv (strs [w0])), (69, .iv (.int .i64 1)), (70, .iv (.int .i64 0))] (ob []) := by
        intro h
        have h4 : rdg n (k + 1) [w0] = rdPre f [w0] 1 := by simp [rdg, h, hf]
        rw [h4]
        exact outer
      rcases w0 with _ | ⟨c, _ | ⟨d, w0⟩⟩
      · simp at go ⊢
        exact go rfl
      · have h6 : c.toNat < 256 := c.toNat_lt
        by_cases h7 : 97 ≤ c.toNat ∧ c.toNat - 97 < n
        · have h8 : IntKind.wrap .i64 (c.toNat : Int) = c.toNat := wrap_i64 (by omega) (by omega)
          have h9 : rdg n (k + 1) [[c]] = [.fact (c.toNat - 97)] := by simp [rdg, factOf, h7]
          have h10 : (97 : Int) ≤ c.toNat := by omega
          have h11 : (c.toNat : Int) - 97 < n := by omega
          have h12 : ((c.toNat - 97 : Nat) : Int) = (c.toNat : Int) - 97 := by omega
          rw [h9]
          simp [h8, h10, h11, encC, h12]
          omega
        · have h8 : IntKind.wrap .i64 (c.toNat : Int) = c.toNat := wrap_i64 (by omega) (by omega)
          have go' := go (by simp [factOf]; omega)
          simp [h8] at go' ⊢
          refine ⟨by omega, fun a => ⟨fun b => absurd ⟨by omega, by omega⟩ h7, fun _ => go'⟩, fun _ => go'⟩
      · have go' := go rfl
        simp at go' ⊢
        exact ⟨fun h => by omega, fun _ => go'⟩
    · have h4 : rdg n (k + 1) (w0 :: w1 :: rest) = rdPre f (w0 :: w1 :: rest) (w0 :: w1 :: rest).length := by simp [rdg, factOf, hf]
      have h5 : (1 : Int) < (rest.length : Int) + 1 + 1 := by omega
      have h6 : ¬ (rest.length : Int) + 1 + 1 = 1 := by omega
      rw [h4]
      by_cases h2 : w0 = wNot
      · have h3 : rdNot f (w0 :: w1 :: rest) = (f (w1 :: rest)).map .no := by simp [rdNot, h2]
        rw [h3] at outer
        have h7 : ((rest.length : Int) + 1 + 1).toNat = rest.length + 2 := by omega
        have h8 := small (w1 :: rest) (by simp at hw ⊢; omega)
        simp [wNot] at h2
        simp [h2, h5, h6, h7]
        refine fun _ => ⟨by omega, fun _ => ?_⟩
        refine callK_of (IH (w1 :: rest) (by simp at hw ⊢; omega)) (by simp) ?_
        simp
        intro _
        refine not64 _ _ _ _ h8 ?_
        rw [LoopAt_enter c64_b0.eq_1]
        subst h2
        simp at outer ⊢
        exact fun _ => outer
      · have h3 : rdNot f (w0 :: w1 :: rest) = [] := by simp [rdNot, h2]
        rw [h3] at outer
        simp [wNot] at h2
        simp at outer
        simp [h2, h5, h6]
        exact fun _ => outer
end
end Go.Pp

/- The document's readings are the same. -/
namespace Go.Pp
open Go Go.Ev Go.Proofs Go.RowKit

def tset : Rd → Nat
  | .fact n => factSet n 64
  | .no r => 18446744073709551615 ^^^ tset r
  | .bin o a b => joinB o.word (tset a) (tset b)

theorem tset_lt : ∀ r : Rd, tset r < 2 ^ 64
  | .fact n => factSet_lt n 64 (by omega)
  | .no r => Nat.xor_lt_two_pow (by omega) (tset_lt r)
  | .bin o a b => by
    have ha := tset_lt a
    have hb := tset_lt b
    simp only [tset, joinB]
    split
    · exact Nat.and_lt_two_pow _ hb
    · split
      · exact Nat.or_lt_two_pow ha hb
      · exact Nat.or_lt_two_pow ha (Nat.xor_lt_two_pow (by omega) hb)

@[simp] def rrow (r : Rd) : List IV := [.str (text r), .int .u64 (tset r : Nat)]
@[simp] def rrs (L : List Rd) : IV := .sl 2 (L.map fun r => [.str (text r), .int .u64 (tset r : Nat)])
@[simp] def ob2 (L : List Rd) : Objs := [(5, AO.arr 56 2 (emb (L.map fun r => [.str (text r), .int .u64 (tset r : Nat)])) 0)]

theorem rdg_text (n : Nat) : ∀ (k : Nat) (ws : List W) (r : Rd), r ∈ rdg n k ws → (text r).length ≤ 9 * ws.length
  | 0, ws, r => by simp [rdg]
  | k + 1, ws, r => by
    simp only [rdg]
    split
    · rename_i m hm
      have := (factOf_len hm).1
      intro h
      simp at h
      subst h
      simp [text, this]
    · intro h
      simp only [rdPre, List.mem_append] at h
      rcases h with h | h
      · unfold rdNot at h
        split at h
        · rename_i hc
          rw [List.mem_map] at h
          obtain ⟨a, ha, rfl⟩ := h
          have := rdg_text n k _ a ha
          simp [text] at this ⊢
          omega
        · simp at h
      · rw [List.mem_flatMap] at h
        obtain ⟨i, hi, h⟩ := h
        simp at hi
        unfold rdStep at h
        split at h
        · simp at h
        · split at h
          · simp at h
          · rename_i o _
            unfold pairsOf at h
            rw [List.mem_flatMap] at h
            obtain ⟨a, ha, h⟩ := h
            rw [List.mem_map] at h
            obtain ⟨b, hb, rfl⟩ := h
            have h1 := rdg_text n k _ a ha
            have h2 := rdg_text n k _ b hb
            have h3 : o.word.length ≤ 3 := by cases o <;> decide
            simp [text] at h1 h2 ⊢
            omega

theorem rdg_fok (n : Nat) (hn : n ≤ 6) : ∀ (k : Nat) (ws : List W) (r : Rd), r ∈ rdg n k ws → fok r
  | 0, ws, r => by simp [rdg]
  | k + 1, ws, r => by
    simp only [rdg]
    split
    · rename_i m hm
      have := (factOf_len hm).2
      intro h
      simp at h
      subst h
      simp [fok]
      omega
    · intro h
      simp only [rdPre, List.mem_append] at h
      rcases h with h | h
      · unfold rdNot at h
        split at h
        · rename_i hc
          rw [List.mem_map] at h
          obtain ⟨a, ha, rfl⟩ := h
          exact rdg_fok n hn k _ a ha
        · simp at h
      · rw [List.mem_flatMap] at h
        obtain ⟨i, hi, h⟩ := h
        unfold rdStep at h
        split at h
        · simp at h
        · split at h
          · simp at h
          · unfold pairsOf at h
            rw [List.mem_flatMap] at h
            obtain ⟨a, ha, h⟩ := h
            rw [List.mem_map] at h
            obtain ⟨b, hb, rfl⟩ := h
            exact ⟨rdg_fok n hn k _ a ha, rdg_fok n hn k _ b hb⟩

theorem opOf_word {w : W} {o : Op} (h : opOf w = some o) : w = o.word := by
  unfold opOf at h
  split at h
  · injection h with h; subst h; assumption
  · split at h
    · injection h with h; subst h; assumption
    · split at h
      · injection h with h; subst h; assumption
      · cases h

def factL (w : W) (n : Nat) : List Rd := ((List.range n).filter fun m => decide (w = [UInt8.ofNat (97 + m)])).map Rd.fact
theorem factL_succ (w : W) (n : Nat) : factL w (n + 1) = factL w n ++ (if w = [UInt8.ofNat (97 + n)] then [.fact n] else []) := by
  simp only [factL, List.range_succ, List.filter_append, List.map_append]
  congr 1
  by_cases h : w = [UInt8.ofNat (97 + n)]
  · rw [if_pos h]
    simp only [List.filter_cons, decide_eq_true h, if_true, List.filter_nil, List.map_cons, List.map_nil]
  · rw [if_neg h]
    simp only [List.filter_cons, decide_eq_false h, List.filter_nil, Bool.false_eq_true, if_false, List.map_nil]
theorem factL_len (w : W) (n : Nat) : (factL w n).length ≤ n := by
  have := List.length_filter_le (fun m => decide (w = [UInt8.ofNat (97 + m)])) (List.range n)
  simpa [factL] using this
theorem factL_eq (w : W) : ∀ n, n ≤ 6 → factL w n = (match factOf n [w] with | some m => [.fact m] | none => [])
  | 0, _ => by
    rcases w with _ | ⟨c, _ | ⟨d, w⟩⟩ <;> simp [factL, factOf]
  | n + 1, h => by
    rw [factL_succ, factL_eq w n (by omega)]
    rcases w with _ | ⟨c, _ | ⟨d, w⟩⟩
    · simp [factOf]
    · have h1 : c = UInt8.ofNat (97 + n) ↔ c.toNat = 97 + n := by
        rw [← UInt8.toNat_inj]
        simp
        omega
      simp only [factOf, List.cons.injEq, and_true, h1]
      by_cases h2 : 97 ≤ c.toNat ∧ c.toNat - 97 < n
      · have h3 : 97 ≤ c.toNat ∧ c.toNat - 97 < n + 1 := by omega
        have h4 : ¬ c.toNat = 97 + n := by omega
        rw [if_pos h2, if_pos h3, if_neg h4]
        simp
      · by_cases h4 : c.toNat = 97 + n
        · have h3 : 97 ≤ c.toNat ∧ c.toNat - 97 < n + 1 := by omega
          have h5 : c.toNat - 97 = n := by omega
          rw [if_neg h2, if_pos h3, if_pos h4]
          simp [h5]
        · have h3 : ¬ (97 ≤ c.toNat ∧ c.toNat - 97 < n + 1) := by omega
          rw [if_neg h2, if_neg h3, if_neg h4]
          simp
    · simp [factOf]

section
variable {K : World → Prop} {r : IV}

theorem not59 (X0 X1 : IV) (A : List Rd) (kk : List AI) (hA : A.length ≤ 323) (hT : ∀ a ∈ A, (text a).length ≤ 1000)
    (h : LoopF Tryd.prog K (RetIs [ARes.tmp 4] r) c59_b1 [0, 1, 5, 7, 8] [5] kk
      [(0, .iv X0), (1, .iv X1), (5, AV.aref 5 (A.map Rd.no).length), (7, .iv (rrs A)), (8, AV.iv (.int .i64 (A.length : Nat)))] (ob2 (A.map Rd.no))) :
    LoopF Tryd.prog K (RetIs [ARes.tmp 4] r) c59_b1 [0, 1, 5, 7, 8] [5] kk
      [(0, .iv X0), (1, .iv X1), (5, AV.aref 5 0), (7, .iv (rrs A)), (8, AV.iv (.int .i64 0))] (ob2 []) := by
  have := loop_up (P := Tryd.prog) (K := K) (F := RetIs [ARes.tmp 4] r) (c := c59_b1) (ks := [0, 1, 5, 7, 8]) (ids := [5]) (k := kk)
    (fun m => [(0, .iv X0), (1, .iv X1), (5, AV.aref 5 ((A.take m).map Rd.no).length), (7, .iv (rrs A)), (8, AV.iv (.int .i64 (m : Nat)))])
    (fun m => ob2 ((A.take m).map Rd.no)) A.length (by rw [List.take_length]; exact h) (fun i hi ih => ?_)
  · simpa using this
  · have e1 : (A.take (i + 1)).map Rd.no = (A.take i).map Rd.no ++ [Rd.no A[i]] := by
      rw [List.take_succ_eq_append_getElem hi, List.map_append]
      rfl
    have e2 : ((A.take i).map Rd.no).length ≤ 323 := by
      simp
      omega
    have e3 := hT _ (List.getElem_mem hi)
    have e4 := xor_u64 18446744073709551615 (tset A[i]) (by omega) (tset_lt _)
    rw [e1] at ih
    generalize (A.take i).map Rd.no = Y at *
    rw [LoopAt_enter c59_b1.eq_1]
    simp [tset, text] at ih e4
    simp [hi, e4]
    intro _
    exact ⟨by omega, by omega, by omega, by omega, ih⟩

variable (hK : ∀ w w', K w → Below w.heap.size w w' → K w')
include hK
theorem inner59 (o : Op) (ws : List W) (at' : Nat) (hat : at' < ws.length) (hw : ws[at'] = o.word) (X1 : IV) (A B L : List Rd) (j : Nat) (hj : j < A.length) (kk : List AI) (hb : L.length + B.length ≤ 1000000000)
    (hA : ∀ a ∈ A, (text a).length ≤ 1000) (hB : ∀ a ∈ B, (text a).length ≤ 1000)
    (h : LoopF Tryd.prog K (RetIs [ARes.tmp 4] r) c59_b2 [0, 1, 5, 9, 10, 11, 12, 13] [5] kk
      [(0, .iv (strs ws)), (1, .iv X1), (5, AV.aref 5 (L ++ B.map (Rd.bin o A[j])).length), (9, .iv (.int .i64 (at' : Nat))), (10, .iv (rrs A)), (11, .iv (rrs B)), (12, .iv (.int .i64 (j : Nat))), (13, .iv (.int .i64 (B.length : Nat)))] (ob2 (L ++ B.map (Rd.bin o A[j])))) :
    LoopF Tryd.prog K (RetIs [ARes.tmp 4] r) c59_b2 [0, 1, 5, 9, 10, 11, 12, 13] [5] kk
      [(0, .iv (strs ws)), (1, .iv X1), (5, AV.aref 5 L.length), (9, .iv (.int .i64 (at' : Nat))), (10, .iv (rrs A)), (11, .iv (rrs B)), (12, .iv (.int .i64 (j : Nat))), (13, .iv (.int .i64 0))] (ob2 L) := by
  have := loop_up (P := Tryd.prog) (K := K) (F := RetIs [ARes.tmp 4] r) (c := c59_b2) (ks := [0, 1, 5, 9, 10, 11, 12, 13]) (ids := [5]) (k := kk)
    (fun m => [(0, .iv (strs ws)), (1, .iv X1), (5, AV.aref 5 (L ++ (B.take m).map (Rd.bin o A[j])).length), (9, .iv (.int .i64 (at' : Nat))), (10, .iv (rrs A)), (11, .iv (rrs B)), (12, .iv (.int .i64 (j : Nat))), (13, .iv (.int .i64 (m : Nat)))])
    (fun m => ob2 (L ++ (B.take m).map (Rd.bin o A[j]))) B.length (by rw [List.take_length]; exact h) (fun i hi ih => ?_)
  · simpa using this
  · have e1 : L ++ (B.take (i + 1)).map (Rd.bin o A[j]) = (L ++ (B.take i).map (Rd.bin o A[j])) ++ [Rd.bin o A[j] B[i]] := by
      rw [List.take_succ_eq_append_getElem hi, List.map_append, ← List.append_assoc]
      rfl
    have e2 : (L ++ (B.take i).map (Rd.bin o A[j])).length ≤ 1000000000 := by
      simp
      omega
    have e3 := hA _ (List.getElem_mem hj)
    have e4 := hB _ (List.getElem_mem hi)
    have e5 : o.word.length ≤ 3 := by cases o <;> decide
    rw [e1] at ih
    generalize L ++ (B.take i).map (Rd.bin o A[j]) = Y at *
    rw [LoopAt_enter c59_b2.eq_1]
    simp [tset, text] at ih
    simp [hi, hj, hat, hw]
    intro _
    refine ⟨by omega, by omega, by omega, by omega, by omega, by omega, ?_⟩
    refine callK_of (good67 hK o.word (tset A[j]) (tset B[i]) (tset_lt _) (tset_lt _)) (by simp) ?_
    simp
    exact ⟨by omega, by omega, ih⟩

theorem mid59 (o : Op) (ws : List W) (at' : Nat) (hat : at' < ws.length) (hw : ws[at'] = o.word) (X1 : IV) (A B L : List Rd) (kk : List AI) (hA : A.length ≤ 323) (hB : B.length ≤ 323) (hL : L.length ≤ 9000000)
    (hTA : ∀ a ∈ A, (text a).length ≤ 1000) (hTB : ∀ a ∈ B, (text a).length ≤ 1000)
    (h : LoopF Tryd.prog K (RetIs [ARes.tmp 4] r) c59_b3 [0, 1, 5, 9, 10, 11, 12] [5] kk
      [(0, .iv (strs ws)), (1, .iv X1), (5, AV.aref 5 (L ++ pairsOf o A B).length), (9, .iv (.int .i64 (at' : Nat))), (10, .iv (rrs A)), (11, .iv (rrs B)), (12, .iv (.int .i64 (A.length : Nat)))] (ob2 (L ++ pairsOf o A B))) :
    LoopF Tryd.prog K (RetIs [ARes.tmp 4] r) c59_b3 [0, 1, 5, 9, 10, 11, 12] [5] kk
      [(0, .iv (strs ws)), (1, .iv X1), (5, AV.aref 5 L.length), (9, .iv (.int .i64 (at' : Nat))), (10, .iv (rrs A)), (11, .iv (rrs B)), (12, .iv (.int .i64 0))] (ob2 L) := by
  have := loop_up (P := Tryd.prog) (K := K) (F := RetIs [ARes.tmp 4] r) (c := c59_b3) (ks := [0, 1, 5, 9, 10, 11, 12]) (ids := [5]) (k := kk)
    (fun m => [(0, .iv (strs ws)), (1, .iv X1), (5, AV.aref 5 (L ++ pairsOf o (A.take m) B).length), (9, .iv (.int .i64 (at' : Nat))), (10, .iv (rrs A)), (11, .iv (rrs B)), (12, .iv (.int .i64 (m : Nat)))])
    (fun m => ob2 (L ++ pairsOf o (A.take m) B)) A.length (by rw [List.take_length]; exact h) (fun i hi ih => ?_)
  · simpa [pairsOf] using this
  · have e2 : (L ++ pairsOf o (A.take i) B).length ≤ 100000000 := by
      rw [List.length_append, pairs_len, List.length_take, Nat.min_eq_left (by omega)]
      have := Nat.mul_le_mul (show i ≤ 323 by omega) hB
      omega
    rw [pairs_succ o A B i hi, ← List.append_assoc] at ih
    generalize L ++ pairsOf o (A.take i) B = Y at *
    rw [LoopAt_enter c59_b3.eq_1]
    simp [hi]
    intro _
    have := inner59 (K := K) (r := r) hK o ws at' hat hw X1 A B Y i hi
      (AI.inBlock 8 :: .inBlock 7 :: .code (.ops c59_r22 false) :: .inLoop c59_b3 [0, 1, 5, 9, 10, 11, 12] [5] :: kk) (by omega) hTA hTB ?_
    · simpa using this
    · rw [LoopAt_enter c59_b2.eq_1]
      simp at ih ⊢
      exact fun _ => ⟨by omega, ih⟩

theorem fact59 (w : W) (n : Nat) (hn : n ≤ 6) (kk : List AI)
    (h : LoopF Tryd.prog K (RetIs [ARes.tmp 4] r) c59_b0 [0, 1, 5, 6] [5] kk
      [(0, .iv (strs [w])), (1, .iv (.int .i64 n)), (5, AV.aref 5 (factL w n).length), (6, AV.iv (.int .i64 n))] (ob2 (factL w n))) :
    LoopF Tryd.prog K (RetIs [ARes.tmp 4] r) c59_b0 [0, 1, 5, 6] [5] kk
      [(0, .iv (strs [w])), (1, .iv (.int .i64 n)), (5, AV.aref 5 0), (6, AV.iv (.int .i64 0))] (ob2 []) := by
  have := loop_up (P := Tryd.prog) (K := K) (F := RetIs [ARes.tmp 4] r) (c := c59_b0) (ks := [0, 1, 5, 6]) (ids := [5]) (k := kk)
    (fun m => [(0, .iv (strs [w])), (1, .iv (.int .i64 n)), (5, AV.aref 5 (factL w m).length), (6, AV.iv (.int .i64 (m : Nat)))])
    (fun m => ob2 (factL w m)) n h (fun i hi ih => ?_)
  · simpa [factL] using this
  · have e2 := factL_len w i
    have e3 : IntKind.wrap .u8 (97 + (i : Int)) = 97 + i := wrap_u8 (by omega) (by omega)
    have e4 : (97 + (i : Int)).toNat = 97 + i := by omega
    have e5 : (97 + i) % 256 = 97 + i := by omega
    have hi' : (i : Int) < n := by omega
    rw [factL_succ] at ih
    rw [LoopAt_enter c59_b0.eq_1]
    by_cases hw : w = [UInt8.ofNat (97 + i)]
    · rw [if_pos hw] at ih
      generalize hY : factL w i = Y at *
      simp [hi', e3, e4, bytesOf, byteOf, bytesV]
      refine ⟨by omega, by omega, fun _ => ?_, fun e => ?_⟩
      · refine callK_of (good65 hK i (by omega)) (by simp) ?_
        have e6 : text (Rd.fact i) = w := hw.symm
        have e7 : tset (Rd.fact i) = factSet i 64 := rfl
        simp [e6, e7] at ih ⊢
        exact ⟨by omega, by omega, ih⟩
      · exact absurd (by simpa using hw) e
    · rw [if_neg hw] at ih
      simp [hi', e3, e4, bytesOf, bytesV]
      refine ⟨by omega, by omega, fun e => ?_, fun e => ⟨by omega, ?_⟩⟩
      · exact absurd (by simpa using e) hw
      · simpa using ih

theorem good59 (n : Nat) (hn : n ≤ 6) : ∀ (k : Nat), k ≤ 9 → ∀ ws : List W, ws.length ≤ k → Good Tryd.prog K 59 [strs ws, .int .i64 n] (rrs (rdg n k ws))
  | 0, _, ws, hw => by
    have : ws = [] := List.length_eq_zero_iff.1 (by omega)
    subst this
    refine good_of_wp hK c59_ok (by simp) ?_
    simp [rdg]
    rw [LoopAt_enter c59_b4.eq_1]
    simp
  | k + 1, hk, ws, hw => by
    have IH := good59 n hn k (by omega)
    have small : ∀ ws : List W, ws.length ≤ k → (rdg n k ws).length ≤ 323 := fun ws h => rdg_small (by omega) (by omega)
    have tex : ∀ ws : List W, ws.length ≤ k → ∀ a ∈ rdg n k ws, (text a).length ≤ 1000 := fun ws h a ha => by
      have := rdg_text n k ws a ha
      omega
    refine good_of_wp hK c59_ok (by simp) ?_
    generalize hf : rdg n k = f at *
    have outer : 2 ≤ ws.length → LoopF Tryd.prog K (RetIs [ARes.tmp 4] (rrs (rdPre f ws ws.length))) c59_b4 [0, 1, 5, 9] [5] [AI.inBlock 4, AI.code (.seq (.ops c59_r27 false) .ret)]
        [(0, .iv (strs ws)), (1, .iv (.int .i64 n)), (5, .aref 5 (rdNot f ws).length), (9, .iv (.int .i64 1))] (ob2 (rdNot f ws)) := by
      intro h2
      obtain ⟨m, hm⟩ : ∃ m, ws.length = m + 2 := ⟨ws.length - 2, by omega⟩
      have := loop_up (P := Tryd.prog) (K := K) (F := RetIs [ARes.tmp 4] (rrs (rdPre f ws ws.length))) (c := c59_b4) (ks := [0, 1, 5, 9]) (ids := [5]) (k := [AI.inBlock 4, AI.code (.seq (.ops c59_r27 false) .ret)])
        (fun i => [(0, .iv (strs ws)), (1, .iv (.int .i64 n)), (5, .aref 5 (rdPre f ws (i + 1)).length), (9, .iv (.int .i64 ((i + 1 : Nat) : Int)))])
        (fun i => ob2 (rdPre f ws (i + 1))) m ?_ (fun i hi ih => ?_)
      · simpa [rdPre, rdStep, List.range_succ] using this
      · have e1 : rdPre f ws (m + 1) = rdPre f ws ws.length := by
          have e3 : rdStep f ws (m + 1) = [] := by simp [rdStep, hm]
          rw [hm]
          simp only [rdPre, List.range_succ (n := m + 1), List.flatMap_append, List.flatMap_cons, List.flatMap_nil, e3, List.append_nil]
        rw [e1]
        have e4 : ¬ ((m : Int) + 1 < (ws.length : Int) - 1) := by omega
        rw [LoopAt_enter c59_b4.eq_1]
        generalize rdPre f ws ws.length = Y at *
        simp [e4]
        omega
      · have hi' : i + 1 < ws.length := by omega
        have e4 : (i : Int) + 1 < (ws.length : Int) - 1 := by omega
        have e1 : rdPre f ws (i + 1 + 1) = rdPre f ws (i + 1) ++ rdStep f ws (i + 1) := by
          simp [rdPre, List.range_succ]
        have e2 : (rdPre f ws (i + 1)).length ≤ 8000000 := by
          have h1 : (rdNot f ws).length ≤ 323 := by
            unfold rdNot
            split
            · rw [List.length_map]
              exact small _ (by simp; omega)
            · simp
          have h2 : ((List.range (i + 1)).flatMap (rdStep f ws)).length ≤ (i + 1) * (323 * 323) := by
            refine Nat.le_trans (flatMap_len _ (323 * 323) _ fun x hx => ?_) (by simp)
            simp at hx
            unfold rdStep
            split
            · simp
            · split
              · simp
              · rw [pairs_len]
                exact Nat.mul_le_mul (small _ (by simp; omega)) (small _ (by simp; omega))
          simp only [rdPre, List.length_append]
          omega
        rw [e1] at ih
        generalize rdPre f ws (i + 1) = Y at *
        have e5 : ((i : Int) + 1).toNat = i + 1 := by omega
        rw [LoopAt_enter c59_b4.eq_1]
        simp [e4, hi', e5]
        intro _
        refine ⟨by omega, by omega, ?_⟩
        refine callK_of (good66 hK ws[i + 1]) (by simp) ?_
        simp
        refine ⟨fun e => ⟨by omega, ?_⟩, fun e => ⟨by omega, fun _ => ?_⟩⟩
        · have e6 : opOf ws[i + 1] = none := by simpa [isOpW] using e
          have e7 : rdStep f ws (i + 1) = [] := by simp [rdStep, hi', e6]
          rw [e7] at ih
          simpa using ih
        · obtain ⟨o, ho⟩ : ∃ o, opOf ws[i + 1] = some o := Option.isSome_iff_exists.1 e
          have e6 : ws[i + 1] = o.word := opOf_word ho
          have e7 : ((i : Int) + 1 + 1).toNat = i + 1 + 1 := by omega
          have c1 : ¬ i + 1 + 1 = ws.length := by omega
          have e8 : rdStep f ws (i + 1) = pairsOf o (f (ws.take (i + 1))) (f (ws.drop (i + 1 + 1))) := by
            simp [rdStep, hi', ho, c1]
          rw [e8] at ih
          rw [← List.map_take]
          refine callK_of (IH (ws.take (i + 1)) (by simp; omega)) (by simp) ?_
          simp [e7]
          refine ⟨by omega, by omega, fun _ => ?_⟩
          rw [← List.map_drop]
          refine callK_of (IH (ws.drop (i + 1 + 1)) (by simp; omega)) (by simp) ?_
          simp
          have := mid59 (K := K) (r := rrs (rdPre f ws ws.length)) hK o ws (i + 1) hi' e6 (.int .i64 n) (f (ws.take (i + 1))) (f (ws.drop (i + 1 + 1))) Y
            [.inBlock 6, .inBlock 5, .code (.ops c59_r17 false), .inLoop c59_b4 [0, 1, 5, 9] [5], AI.inBlock 4, AI.code (.seq (.ops c59_r27 false) .ret)]
            (small _ (by simp; omega)) (small _ (by simp; omega)) (by omega) (tex _ (by simp; omega)) (tex _ (by simp; omega)) ?_
          · simpa using this
          · rw [LoopAt_enter c59_b3.eq_1]
            simp at ih ⊢
            exact fun _ => ⟨by omega, ih⟩
    rcases ws with _ | ⟨w0, _ | ⟨w1, rest⟩⟩
    · have h4 : rdg n (k + 1) [] = [] := by simp [rdg, factOf, rdPre, rdNot]
      rw [h4]
      simp
      rw [LoopAt_enter c59_b4.eq_1]
      simp
    · have h4 : rdg n (k + 1) [w0] = factL w0 n := by
        rw [factL_eq w0 n hn]
        have h5 : rdPre (rdg n k) [w0] 1 = [] := by simp [rdPre, rdNot, rdStep, List.range_succ]
        simp only [rdg]
        split <;> simp_all
      rw [h4]
      have hl := factL_len w0 n
      simp
      refine fact59 hK w0 n hn _ ?_
      rw [LoopAt_enter c59_b0.eq_1]
      simp
    · have h4 : rdg n (k + 1) (w0 :: w1 :: rest) = rdPre f (w0 :: w1 :: rest) (w0 :: w1 :: rest).length := by simp [rdg, factOf, hf]
      have h5 : (1 : Int) < (rest.length : Int) + 1 + 1 := by omega
      have h6 : ¬ (rest.length : Int) + 1 + 1 = 1 := by omega
      have outer := outer (by simp)
      rw [h4]
      by_cases h2 : w0 = wNot
      · have h3 : rdNot f (w0 :: w1 :: rest) = (f (w1 :: rest)).map .no := by simp [rdNot, h2]
        rw [h3] at outer
        have h7 : ((rest.length : Int) + 1 + 1).toNat = rest.length + 2 := by omega
        have h8 := small (w1 :: rest) (by simp at hw ⊢; omega)
        have h9 := tex (w1 :: rest) (by simp at hw ⊢; omega)
        simp [wNot] at h2
        simp [h2, h5, h6, h7]
        refine fun _ => ⟨by omega, fun _ => ?_⟩
        refine callK_of (IH (w1 :: rest) (by simp at hw ⊢; omega)) (by simp) ?_
        simp
        refine not59 _ _ _ _ h8 h9 ?_
        rw [LoopAt_enter c59_b1.eq_1]
        subst h2
        simp at outer ⊢
        exact fun _ => outer
      · have h3 : rdNot f (w0 :: w1 :: rest) = [] := by simp [rdNot, h2]
        rw [h3] at outer
        simp [wNot] at h2
        simp at outer
        simp [h2, h5, h6]
        exact fun _ => outer
end
end Go.Pp
