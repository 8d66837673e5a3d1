/- One byte that is changed: a line stands for one row at most, and it is found. -/
import Derived.Test.YtjjfnbadmpffpaaDoorStands
import Derived.Test.YtjjfnbadmpffpaaDoorRead
set_option linter.all false

set_option maxRecDepth 8000
namespace Go.Bk
open Go Go.Ev Go.Proofs Go.RowKit

theorem diff_tri : ∀ (a b c : W), a.length = b.length → b.length = c.length → diff a c ≤ diff a b + diff b c
  | [], [], [], _, _ => by simp [diff]
  | x :: a, y :: b, z :: c, h, h' => by
    have := diff_tri a b c (by simpa using h) (by simpa using h')
    simp only [diff]
    by_cases h1 : x = y
    · subst h1; simp; omega
    · by_cases h2 : y = z
      · subst h2; simp; omega
      · simp [h1, h2]; split <;> omega
  | [], y :: b, _, h, _ => by simp at h
  | x :: a, [], _, h, _ => by simp at h
  | x :: a, y :: b, [], _, h => by simp at h
  | [], [], z :: c, _, h => by simp at h

theorem diff_split : ∀ (r q : W) (k : Nat), r.length = q.length → diff r q = k + 1 → ∃ a x y b b', r = a ++ x :: b ∧ q = a ++ y :: b' ∧ x ≠ y ∧ b.length = b'.length ∧ diff b b' = k
  | [], [], k, _, h => by simp [diff] at h
  | x :: r, y :: q, k, h, hd => by
    by_cases hxy : x = y
    · subst hxy
      simp only [diff, if_true, Nat.zero_add] at hd
      obtain ⟨a, u, v, b, b', h1, h2, h3, h4, h5⟩ := diff_split r q k (by simpa using h) hd
      exact ⟨x :: a, u, v, b, b', by rw [h1]; rfl, by rw [h2]; rfl, h3, h4, h5⟩
    · simp only [diff, if_neg hxy] at hd
      exact ⟨[], x, y, r, q, rfl, rfl, hxy, by simpa using h, by omega⟩
  | [], y :: q, k, h, _ => by simp at h
  | x :: r, [], k, h, _ => by simp at h

theorem p97 : ∀ a, a < 97 → ∀ m, m < 97 → a * m % 97 = 0 → a = 0 ∨ m = 0 := by decide +kernel
theorem p97i (d m : Int) (hd : d.natAbs < 97) (hm : m.natAbs < 97) (h : (d * m) % 97 = 0) : d = 0 ∨ m = 0 := by
  have h1 : (d * m).natAbs % 97 = 0 := by omega
  rw [Int.natAbs_mul] at h1
  rcases p97 _ hd _ hm h1 with h | h
  · exact .inl (by omega)
  · exact .inr (by omega)

theorem p97two (d d' m1 m2 : Int) (h1 : (d + d') % 97 = 0) (h2 : (d * m1 + d' * (m1 + m2)) % 97 = 0) : (d * m2) % 97 = 0 := by
  obtain ⟨u, hu⟩ : ∃ u, d' = 97 * u - d := ⟨(d + d') / 97, by omega⟩
  have e : d * m1 + d' * (m1 + m2) = 97 * (u * (m1 + m2)) - d * m2 := by
    rw [hu, Int.sub_mul, Int.mul_assoc, Int.mul_add d]; omega
  rw [e] at h2
  omega

theorem v1_plain {c : UInt8} (h : 32 ≤ c.toNat ∧ c.toNat ≤ 126) : 0 ≤ v1 c ∧ v1 c ≤ 94 := by simp only [v1]; omega
theorem v1_ne {x y : UInt8} (h : x ≠ y) : v1 x - v1 y ≠ 0 := by
  intro e
  apply h
  rw [← u8_int]
  simp only [v1] at e
  omega

theorem two_inj {m n : Nat} (hm : m < 100) (hn : n < 100) (h : two m = two n) : m = n := by
  have := congrArg dg h
  rw [dg_two hm, dg_two hn] at this
  omega
theorem two_diff {m n : Nat} (hm : m < 100) (hn : n < 100) (h : m ≠ n) : 1 ≤ diff (two m) (two n) := by
  rcases Nat.eq_zero_or_pos (diff (two m) (two n)) with h0 | h0
  · exact absurd (two_inj hm hn (diff_zero _ _ rfl h0)) h
  · exact h0

theorem diff_line (r q : W) (h : r.length = q.length) : diff (lineOf r) (lineOf q) = diff r q + diff (two (S1 r % 97).toNat) (two (S1 q % 97).toNat) + diff (two (S2 1 r % 97).toNat) (two (S2 1 q % 97).toNat) := by
  simp only [lineOf, List.append_assoc]
  rw [diff_app r q _ _ h, diff_app (two (S1 r % 97).toNat) (two (S1 q % 97).toNat) _ _ rfl]
  omega

/-- Lines of different rows differ in three bytes. -/
theorem far_rows {r q : W} (hr : plain r) (hq : plain q) (hl : r.length = q.length) (hn : r.length ≤ 62) (hne : r ≠ q) : 3 ≤ diff (lineOf r) (lineOf q) := by
  rw [diff_line r q hl]
  rcases Nat.lt_or_ge (diff r q) 3 with h3 | h3
  · rcases Nat.eq_zero_or_pos (diff r q) with h0 | h0
    · exact absurd (diff_zero _ _ hl h0) hne
    · obtain ⟨k, hk⟩ : ∃ k, diff r q = k + 1 := ⟨diff r q - 1, by omega⟩
      obtain ⟨a, x, y, b, b', e1, e2, hxy, hbl, hd⟩ := diff_split r q k hl hk
      have px := v1_plain (hr x (by rw [e1]; simp))
      have py := v1_plain (hq y (by rw [e2]; simp))
      have hd0 := v1_ne hxy
      have hal : a.length + 1 + b.length ≤ 62 := by rw [e1] at hn; simp at hn; omega
      have s1 : S1 r - S1 q = v1 x - v1 y + (S1 b - S1 b') := by
        rw [e1, e2, S1_app, S1_app]; simp only [S1]; omega
      have s2 : S2 1 r - S2 1 q = (v1 x - v1 y) * ((1 + a.length : Nat) : Int) + (S2 (1 + a.length + 1) b - S2 (1 + a.length + 1) b') := by
        rw [e1, e2, S2_app, S2_app]; simp only [S2, Int.sub_mul]; omega
      rcases Nat.eq_zero_or_pos k with hk0 | hk0
      · subst hk0
        have hb := diff_zero _ _ hbl hd
        subst hb
        have n1 : (S1 r % 97).toNat ≠ (S1 q % 97).toNat := by omega
        have n2 : (S2 1 r % 97).toNat ≠ (S2 1 q % 97).toNat := by
          intro e
          have : ((v1 x - v1 y) * ((1 + a.length : Nat) : Int)) % 97 = 0 := by omega
          rcases p97i _ _ (by omega) (by omega) this with h | h <;> omega
        have := two_diff (by omega) (by omega) n1
        have := two_diff (by omega) (by omega) n2
        omega
      · have hk1 : k = 1 := by omega
        subst hk1
        obtain ⟨a', x', y', c, c', f1, f2, hxy', hcl, hd'⟩ := diff_split b b' 0 hbl hd
        have hc := diff_zero _ _ hcl hd'
        subst hc
        have px' := v1_plain (hr x' (by rw [e1, f1]; simp))
        have py' := v1_plain (hq y' (by rw [e2, f2]; simp))
        have hd0' := v1_ne hxy'
        have hal' : a.length + 1 + a'.length + 1 ≤ 62 := by rw [f1] at hal; simp at hal; omega
        have s1' : S1 b - S1 b' = v1 x' - v1 y' := by
          rw [f1, f2, S1_app, S1_app]; simp only [S1]; omega
        have s2' : S2 (1 + a.length + 1) b - S2 (1 + a.length + 1) b' = (v1 x' - v1 y') * ((1 + a.length + 1 + a'.length : Nat) : Int) := by
          rw [f1, f2, S2_app, S2_app]; simp only [S2, Int.sub_mul]; omega
        rw [s1'] at s1
        rw [s2'] at s2
        by_cases m1 : (S1 r % 97).toNat = (S1 q % 97).toNat
        · have n2 : (S2 1 r % 97).toNat ≠ (S2 1 q % 97).toNat := by
            intro e
            have hz : ((v1 x - v1 y) * ((1 + a'.length : Nat) : Int)) % 97 = 0 := by
              refine p97two _ (v1 x' - v1 y') ((1 + a.length : Nat) : Int) _ (by omega) ?_
              have e6 : ((1 + a.length + 1 + a'.length : Nat) : Int) = ((1 + a.length : Nat) : Int) + ((1 + a'.length : Nat) : Int) := by omega
              rw [e6] at s2
              omega
            rcases p97i _ _ (by omega) (by omega) hz with h | h <;> omega
          have := two_diff (by omega) (by omega) n2
          omega
        · have := two_diff (by omega) (by omega) m1
          omega
  · omega

theorem fits_spec {l r : W} (h : fits l r = true) : isRow r = true ∧ l.length = r.length + 4 ∧ diff l (lineOf r) ≤ 1 := by
  simp only [fits, Bool.and_eq_true, decide_eq_true_eq] at h
  exact ⟨h.1.1, h.1.2, h.2⟩
theorem fits_mk {l r : W} (h1 : isRow r = true) (h2 : l.length = r.length + 4) (h3 : diff l (lineOf r) ≤ 1) : fits l r = true := by
  simp [fits, h1, h2, h3]

theorem fits_unique {l r q : W} (h : fits l r = true) (h' : fits l q = true) : r = q := by
  obtain ⟨a1, a2, a3⟩ := fits_spec h
  obtain ⟨b1, b2, b3⟩ := fits_spec h'
  obtain ⟨p1, p2, _⟩ := row_plain a1
  obtain ⟨p3, _, _⟩ := row_plain b1
  by_cases hne : r = q
  · exact hne
  · have := far_rows p1 p3 (by omega) p2 hne
    have := diff_tri (lineOf r) l (lineOf q) (by rw [lineOf_len]; omega) (by rw [lineOf_len]; omega)
    rw [diff_comm (lineOf r) l] at this
    omega

theorem tmod_abs {x : Int} (h1 : -97 < x) (h2 : x < 97) : x.tmod 97 = x := by
  by_cases h : x < 0
  · have := Int.neg_tmod (-x) 97
    rw [Int.neg_neg] at this
    rw [this, Int.tmod_eq_emod_of_nonneg (by omega)]
    omega
  · rw [Int.tmod_eq_emod_of_nonneg (by omega)]; omega

theorem fix_back {a b : W} {x y : UInt8} (hp : plain (a ++ x :: b)) : fix (S1 (a ++ x :: b) % 97) (a ++ y :: b) a.length = a ++ x :: b := by
  have pa : plain a := fun c hc => hp c (by simp [hc])
  have pb : plain b := fun c hc => hp c (by simp [hc])
  have px := v1_plain (hp x (by simp))
  have na := S1_pos pa
  have nb := S1_pos pb
  have e : fixV (S1 (a ++ x :: b) % 97) (a ++ y :: b) a.length = v1 x := by
    unfold fixV
    have e1 : (a ++ y :: b).take a.length ++ [32] ++ (a ++ y :: b).drop (a.length + 1) = a ++ ([32] ++ b) := by simp
    have e3 : S1 ((32 : UInt8) :: b) = S1 b := by simp [S1, v1]
    rw [e1, S1_app, S1_app, show ([32] : W) ++ b = 32 :: b from rfl, e3]
    have e2 : S1 (x :: b) = v1 x + S1 b := rfl
    have t1 : (S1 a + S1 b).tmod 97 = (S1 a + S1 b) % 97 := Int.tmod_eq_emod_of_nonneg (by omega)
    rw [e2, t1]
    generalize hX : (S1 a + (v1 x + S1 b)) % 97 - (S1 a + S1 b) % 97 = X
    rw [tmod_abs (x := X) (by omega) (by omega), Int.tmod_eq_emod_of_nonneg (show 0 ≤ X + 97 by omega)]
    omega
  unfold fix
  rw [e]
  have : UInt8.ofNat (32 + v1 x).toNat = x := by
    have e3 : (32 + v1 x).toNat = x.toNat := by simp only [v1] at *; omega
    rw [e3, UInt8.ofNat_toNat]
  rw [this]
  simp

theorem rowOf_of_fits {l r : W} (h : fits l r = true) : rowOf l = some r := by
  obtain ⟨a1, a2, a3⟩ := fits_spec h
  obtain ⟨p1, p2, p3⟩ := row_plain a1
  have h6 : ¬ l.length < 6 := by omega
  cases hf : fits l (l.take (l.length - 4)) with
  | true => rw [rowOf_fits h6 rfl hf, fits_unique hf h]
  | false =>
    generalize ht : l.take (l.length - 4) = t at *
    have htl : t.length = r.length := by rw [← ht]; simp; omega
    have hl : l = t ++ l.drop (l.length - 4) := by rw [← ht]; simp
    have hdl : (l.drop (l.length - 4)).length = 4 := by simp; omega
    have hd : diff l (lineOf r) = diff t r + diff (l.drop (l.length - 4)) (two (S1 r % 97).toNat ++ two (S2 1 r % 97).toNat) := by
      conv => lhs; arg 1; rw [hl]
      simp only [lineOf, List.append_assoc]
      exact diff_app _ _ _ _ htl
    have htr : diff t r ≠ 0 := fun e => by
      have := diff_zero _ _ htl e
      subst this
      rw [h] at hf
      cases hf
    have hz : diff (l.drop (l.length - 4)) (two (S1 r % 97).toNat ++ two (S2 1 r % 97).toNat) = 0 := by omega
    have hz' := diff_zero _ _ hdl hz
    have hw : dg ((l.drop (l.length - 4)).take 2) = S1 r % 97 := by
      rw [hz']
      have : (two (S1 r % 97).toNat ++ two (S2 1 r % 97).toNat).take 2 = two (S1 r % 97).toNat := rfl
      rw [this, dg_two (by omega)]
      omega
    rw [rowOf_find h6 ht hf hw (by omega)]
    obtain ⟨a, y, x, b, b', e1, e2, hxy, hbl, hd0⟩ := diff_split t r 0 htl (by omega)
    have hb := diff_zero _ _ hbl hd0
    subst hb
    have hfix : fix (S1 r % 97) t a.length = r := by rw [e1, e2]; exact fix_back (by rw [← e2]; exact p1)
    have hal : a.length < t.length := by rw [e1]; simp
    cases hs : (List.range t.length).find? fun i => fits l (fix (S1 r % 97) t i) with
    | none =>
      rw [List.find?_eq_none] at hs
      have := hs a.length (List.mem_range.2 hal)
      simp [hfix, h] at this
    | some j =>
      have := List.find?_some hs
      simp only [Option.map_some, fits_unique this h]
theorem rowOf_iff (l r : W) : rowOf l = some r ↔ fits l r = true := by
  constructor
  · intro h
    unfold rowOf at h
    split at h
    · cases h
    · simp only at h
      split at h
      · rename_i hf
        injection h with h
        rw [← h]
        exact hf
      · split at h
        · cases h
        · rw [Option.map_eq_some_iff] at h
          obtain ⟨i, h1, h2⟩ := h
          rw [← h2]
          have h3 := List.find?_some h1
          exact h3
  · exact rowOf_of_fits
end Go.Bk

/- What is found of lines, whatever their order. -/
set_option maxRecDepth 8000
namespace Go.Bk
open Go Go.Ev Go.Proofs Go.RowKit

/-- What a line is read as. -/
def rd (l : W) : Option (Int × W × Bool) := (rowOf l).map fun r => (parseR r).1
/-- The line is just that of its row. -/
def ex (l : W) : Bool := match rowOf l with
  | some r => decide (lineOf r = l)
  | none => false

theorem mem_withX {α : Type} [BEq α] [LawfulBEq α] {l : List α} {x y : α} : y ∈ withX l x ↔ y ∈ l ∨ y = x := by
  unfold withX
  split
  · rename_i h
    simp only [List.any_eq_true, beq_iff_eq] at h
    obtain ⟨z, hz, rfl⟩ := h
    exact ⟨.inl, fun h => h.elim id fun e => e ▸ hz⟩
  · simp
theorem withX_nodup {α : Type} [BEq α] [LawfulBEq α] {l : List α} {x : α} (h : l.Nodup) : (withX l x).Nodup := by
  unfold withX
  split
  · exact h
  · rename_i hx
    rw [List.nodup_append]
    refine ⟨h, by simp, ?_⟩
    intro a ha b hb e
    simp at hb
    subst hb e
    apply hx
    simp only [List.any_eq_true, beq_iff_eq]
    exact ⟨_, ha, rfl⟩
theorem withX_ne {α : Type} [BEq α] [LawfulBEq α] (l : List α) (x : α) : withX l x ≠ [] := fun e => by
  have : x ∈ withX l x := mem_withX.2 (.inr rfl)
  rw [e] at this
  cases this

theorem ains_keys {β : Type} (k : Int) (v : β) : ∀ l : List (Int × β), (ains k v l).map (·.1) = if k ∈ l.map (·.1) then l.map (·.1) else l.map (·.1) ++ [k]
  | [] => by simp [ains]
  | p :: r => by
    have ih := ains_keys k v r
    simp only [ains]
    by_cases h : p.1 = k
    · simp [h]
    · rw [if_neg h]
      simp only [List.map_cons, ih, List.mem_cons, Ne.symm h, false_or]
      split <;> simp
theorem mem_ains {β : Type} {k : Int} {v : β} : ∀ {l : List (Int × β)} {q : Int × β}, q ∈ ains k v l → q = (k, v) ∨ q ∈ l
  | [], q, h => by simpa [ains] using h
  | p :: r, q, h => by
    simp only [ains] at h
    split at h
    · rcases List.mem_cons.1 h with h | h
      · exact .inl h
      · exact .inr (List.mem_cons_of_mem _ h)
    · rcases List.mem_cons.1 h with h | h
      · exact .inr (by rw [h]; exact List.mem_cons_self)
      · rcases mem_ains h with h | h
        · exact .inl h
        · exact .inr (List.mem_cons_of_mem _ h)
theorem afind_mem {β : Type} : ∀ {l : List (Int × β)} {q : Int × β}, (l.map (·.1)).Nodup → q ∈ l → afind q.1 l = some q.2
  | p :: r, q, hn, h => by
    simp only [List.map_cons, List.nodup_cons] at hn
    simp only [afind]
    rcases List.mem_cons.1 h with h | h
    · subst h; rw [if_pos rfl]
    · rw [if_neg, afind_mem hn.2 h]
      intro e
      apply hn.1
      rw [e]
      exact List.mem_map_of_mem h
theorem mem_afind {β : Type} {k : Int} {v : β} : ∀ {l : List (Int × β)}, afind k l = some v → (k, v) ∈ l
  | [], h => by cases h
  | p :: r, h => by
    simp only [afind] at h
    split at h
    · rename_i e
      injection h with h
      subst e h
      exact List.mem_cons_self
    · exact List.mem_cons_of_mem _ (mem_afind h)

structure PgInv (p : Pg) (L : List W) : Prop where
  ends : ∀ e, e ∈ p.ends ↔ ∃ l ∈ L, ∃ t, rd l = some (e, t, true)
  endsN : p.ends.Nodup
  rows : ∀ k t, t ∈ (afind k p.rows).getD [] ↔ ∃ l ∈ L, rd l = some (k, t, false)
  rowsN : ∀ k, ((afind k p.rows).getD []).Nodup
  keysN : (p.rows.map (·.1)).Nodup
  full : ∀ q ∈ p.rows, q.2 ≠ []
  pos : ∀ k, 0 ≤ (afind k p.exact).getD 0
  exact : ∀ k, (afind k p.exact).getD 0 = 0 ↔ ∀ l ∈ L, ∀ t, rd l = some (k, t, false) → ex l = false
  bad : p.bad = ((List.range L.length).filter fun j : Nat => (rd (L.getD j [])).isNone).map fun j : Nat => (j : Int)

theorem inv_nil : PgInv ⟨[], [], [], []⟩ [] := ⟨by simp, by simp, by simp [afind], by simp [afind], by simp, by simp, by simp [afind], by simp [afind], by simp⟩

theorem bad_step (L : List W) (l : W) : (((List.range (L ++ [l]).length).filter fun j : Nat => (rd ((L ++ [l]).getD j [])).isNone).map fun j : Nat => (j : Int)) =
    (((List.range L.length).filter fun j : Nat => (rd (L.getD j [])).isNone).map fun j : Nat => (j : Int)) ++ if (rd l).isNone then [(L.length : Int)] else [] := by
  rw [List.length_append, List.length_singleton, List.range_succ, List.filter_append, List.map_append]
  congr 1
  · congr 1
    apply List.filter_congr
    intro j hj
    rw [List.mem_range] at hj
    simp [List.getElem?_append_left hj]
  · cases h : (rd l).isNone <;> simp [h]

theorem inv_step {p : Pg} {L : List W} (l : W) (h : PgInv p L) : PgInv (stepP p L.length l) (L ++ [l]) := by
  have hb := bad_step L l
  unfold stepP
  cases hR : rowOf l with
  | none =>
    have hr : rd l = none := by simp [rd, hR]
    refine ⟨fun e => ?_, h.endsN, fun k t => ?_, h.rowsN, h.keysN, h.full, h.pos, fun k => ?_, ?_⟩
    · simp only [h.ends, List.mem_append, List.mem_singleton]
      constructor
      · rintro ⟨l', hl, t, ht⟩; exact ⟨l', .inl hl, t, ht⟩
      · rintro ⟨l', hl | rfl, t, ht⟩
        · exact ⟨l', hl, t, ht⟩
        · rw [hr] at ht; cases ht
    · simp only [h.rows, List.mem_append, List.mem_singleton]
      constructor
      · rintro ⟨l', hl, ht⟩; exact ⟨l', .inl hl, ht⟩
      · rintro ⟨l', hl | rfl, ht⟩
        · exact ⟨l', hl, ht⟩
        · rw [hr] at ht; cases ht
    · simp only [h.exact, List.mem_append, List.mem_singleton]
      constructor
      · rintro hq l' (hl | rfl) t ht
        · exact hq l' hl t ht
        · rw [hr] at ht; cases ht
      · intro hq l' hl; exact hq l' (.inl hl)
    · rw [hb, h.bad, hr]; simp
  | some r =>
    have hr : rd l = some (parseR r).1 := by simp [rd, hR]
    have he : ex l = decide (lineOf r = l) := by simp [ex, hR]
    have hbb : p.bad = ((List.range (L ++ [l]).length).filter fun j : Nat => (rd ((L ++ [l]).getD j [])).isNone).map fun j : Nat => (j : Int) := by rw [hb, h.bad, hr]; simp
    dsimp only
    generalize (parseR r).1 = x at *
    obtain ⟨k0, t0, c⟩ := x
    cases c with
    | true =>
      simp only [if_true]
      refine ⟨fun e => ?_, withX_nodup h.endsN, fun k t => ?_, h.rowsN, h.keysN, h.full, h.pos, fun k => ?_, hbb⟩
      · simp only [mem_withX, h.ends, List.mem_append, List.mem_singleton]
        constructor
        · rintro (⟨l', hl, t, ht⟩ | rfl)
          · exact ⟨l', .inl hl, t, ht⟩
          · exact ⟨l, .inr rfl, t0, hr⟩
        · rintro ⟨l', hl | rfl, t, ht⟩
          · exact .inl ⟨l', hl, t, ht⟩
          · rw [hr] at ht
            injection ht with ht
            injection ht with ht
            exact .inr ht.symm
      · simp only [h.rows, List.mem_append, List.mem_singleton]
        constructor
        · rintro ⟨l', hl, ht⟩; exact ⟨l', .inl hl, ht⟩
        · rintro ⟨l', hl | rfl, ht⟩
          · exact ⟨l', hl, ht⟩
          · rw [hr] at ht; simp at ht
      · simp only [h.exact, List.mem_append, List.mem_singleton]
        constructor
        · rintro hq l' (hl | rfl) t ht
          · exact hq l' hl t ht
          · rw [hr] at ht; simp at ht
        · intro hq l' hl; exact hq l' (.inl hl)
    | false =>
      simp only [Bool.false_eq_true, if_false]
      refine ⟨fun e => ?_, h.endsN, fun k t => ?_, fun k => ?_, ?_, ?_, fun k => ?_, fun k => ?_, hbb⟩
      · simp only [h.ends, List.mem_append, List.mem_singleton]
        constructor
        · rintro ⟨l', hl, t, ht⟩; exact ⟨l', .inl hl, t, ht⟩
        · rintro ⟨l', hl | rfl, t, ht⟩
          · exact ⟨l', hl, t, ht⟩
          · rw [hr] at ht; simp at ht
      · simp only [afind_ains]
        by_cases hk : k = k0
        · subst hk
          simp only [if_true, Option.getD_some, mem_withX, h.rows, List.mem_append, List.mem_singleton]
          constructor
          · rintro (⟨l', hl, ht⟩ | rfl)
            · exact ⟨l', .inl hl, ht⟩
            · exact ⟨l, .inr rfl, hr⟩
          · rintro ⟨l', hl | rfl, ht⟩
            · exact .inl ⟨l', hl, ht⟩
            · rw [hr] at ht
              injection ht with ht
              injection ht with _ ht
              injection ht with ht _
              exact .inr ht.symm
        · simp only [if_neg hk, h.rows, List.mem_append, List.mem_singleton]
          constructor
          · rintro ⟨l', hl, ht⟩; exact ⟨l', .inl hl, ht⟩
          · rintro ⟨l', hl | rfl, ht⟩
            · exact ⟨l', hl, ht⟩
            · rw [hr] at ht
              injection ht with ht
              injection ht with ht _
              exact absurd ht.symm hk
      · simp only [afind_ains]
        split
        · simp only [Option.getD_some]; exact withX_nodup (h.rowsN _)
        · exact h.rowsN _
      · rw [ains_keys]
        split
        · exact h.keysN
        · rename_i hx
          rw [List.nodup_append]
          refine ⟨h.keysN, by simp, ?_⟩
          intro a ha b hb e
          simp at hb
          subst hb e
          exact hx ha
      · intro q hq
        rcases mem_ains hq with rfl | hq
        · exact withX_ne _ _
        · exact h.full q hq
      · have := h.pos k
        have := h.pos k0
        split
        · rw [afind_ains]
          split
          · simp only [Option.getD_some]; omega
          · omega
        · omega
      · by_cases hx : lineOf r = l
        · rw [if_pos hx, afind_ains]
          have hel : ex l = true := by rw [he]; simp [hx]
          by_cases hk : k = k0
          · subst hk
            have := h.pos k
            simp only [if_true, Option.getD_some]
            constructor
            · intro hz; omega
            · intro hq
              have := hq l (by simp) t0 hr
              rw [hel] at this
              cases this
          · simp only [if_neg hk, h.exact, List.mem_append, List.mem_singleton]
            constructor
            · rintro hq l' (hl | rfl) t ht
              · exact hq l' hl t ht
              · rw [hr] at ht
                injection ht with ht
                injection ht with ht _
                exact absurd ht.symm hk
            · intro hq l' hl; exact hq l' (.inl hl)
        · rw [if_neg hx]
          have hel : ex l = false := by rw [he]; simp [hx]
          simp only [h.exact, List.mem_append, List.mem_singleton]
          constructor
          · rintro hq l' (hl | rfl) t ht
            · exact hq l' hl t ht
            · exact hel
          · intro hq l' hl; exact hq l' (.inl hl)

theorem pg_inv (ls : List W) : ∀ i, i ≤ ls.length → PgInv (pgTo ls i) (ls.take i)
  | 0, _ => inv_nil
  | i + 1, h => by
    have hi : i < ls.length := h
    have := inv_step ls[i] (pg_inv ls i (by omega))
    rw [List.length_take, Nat.min_eq_left (by omega)] at this
    rw [List.take_succ_eq_append_getElem hi]
    have e : pgTo ls (i + 1) = stepP (pgTo ls i) i ls[i] := by simp [pgTo, hi]
    rw [e]
    exact this
theorem pg_all (ls : List W) : PgInv (pgTo ls ls.length) ls := by
  have := pg_inv ls ls.length (Nat.le_refl _)
  rwa [List.take_length] at this

theorem one_of {α : Type} {l : List α} {a : α} (hn : l.Nodup) (h : ∀ x, x ∈ l ↔ x = a) : l = [a] := by
  match l, hn with
  | [], _ => exact absurd ((h a).2 rfl) (by simp)
  | [x], _ => rw [(h x).1 (by simp)]
  | x :: y :: r, hn =>
    have h1 := (h x).1 (by simp)
    have h2 := (h y).1 (by simp)
    subst h1
    rw [h2] at hn
    simp at hn

def foundB (ls : List W) (T : List W) (i : Nat) : Bool := ls.any fun l => decide (rd l = some ((i : Int), T.getD i [], false))
def rightB (ls : List W) (T : List W) (i : Nat) : Bool := ls.any fun l => decide (rd l = some ((i : Int), T.getD i [], false)) && ex l

/-- Lines that are all of one book. -/
structure OfBook (ls : List W) (T : List W) : Prop where
  each : ∀ l ∈ ls, ∀ x, rd l = some x → x = ((T.length : Int), [], true) ∨ ∃ (i : Nat) (t : W), T[i]? = some t ∧ x = ((i : Int), t, false)
  close : ∃ l ∈ ls, rd l = some ((T.length : Int), [], true)

theorem book_ends {p : Pg} {ls T : List W} (h : PgInv p ls) (hb : OfBook ls T) : p.ends = [(T.length : Int)] := by
  refine one_of h.endsN fun e => ?_
  rw [h.ends]
  constructor
  · rintro ⟨l, hl, t, ht⟩
    rcases hb.each l hl _ ht with h | ⟨i, t, _, h⟩
    · injection h with h _
    · injection h with _ h
      injection h with _ h
      cases h
  · rintro rfl
    obtain ⟨l, hl, ht⟩ := hb.close
    exact ⟨l, hl, _, ht⟩
theorem book_row {p : Pg} {ls T : List W} (h : PgInv p ls) (hb : OfBook ls T) (i : Nat) (hi : i < T.length) : (afind (i : Int) p.rows).getD [] = if foundB ls T i then [T[i]] else [] := by
  have hg : T.getD i [] = T[i] := by simp [hi]
  have hm : ∀ t, t ∈ (afind (i : Int) p.rows).getD [] → t = T[i] ∧ foundB ls T i = true := by
    intro t ht
    rw [h.rows] at ht
    obtain ⟨l, hl, ht⟩ := ht
    rcases hb.each l hl _ ht with h | ⟨j, u, hj, h⟩
    · injection h with _ h
      injection h with _ h
      cases h
    · injection h with h1 h
      injection h with h2 _
      have : i = j := by omega
      subst this
      rw [List.getElem?_eq_getElem hi] at hj
      injection hj with hj
      refine ⟨by rw [h2, hj], ?_⟩
      simp only [foundB, List.any_eq_true, decide_eq_true_eq]
      exact ⟨l, hl, by rw [ht, hg, h2, hj]⟩
  split
  · rename_i hf
    refine one_of (h.rowsN _) fun t => ⟨fun ht => (hm t ht).1, ?_⟩
    rintro rfl
    rw [h.rows]
    simp only [foundB, List.any_eq_true, decide_eq_true_eq] at hf
    obtain ⟨l, hl, ht⟩ := hf
    exact ⟨l, hl, by rw [ht, hg]⟩
  · rename_i hf
    cases hl : (afind (i : Int) p.rows).getD [] with
    | nil => rfl
    | cons a r => exact absurd (hm a (by rw [hl]; simp)).2 hf
theorem book_clash {p : Pg} {ls T : List W} (h : PgInv p ls) (hb : OfBook ls T) : clashP p = false := by
  have he := book_ends h hb
  unfold clashP
  rw [he]
  simp only [List.length_singleton, Nat.lt_irrefl, decide_false, Bool.false_or]
  rw [List.any_eq_false]
  intro q hq
  have hf := afind_mem h.keysN hq
  have hne := h.full q hq
  obtain ⟨t, ht⟩ : ∃ t, t ∈ q.2 := by
    cases hq2 : q.2 with
    | nil => exact absurd hq2 hne
    | cons a r => exact ⟨a, by simp⟩
  have ht' : t ∈ (afind q.1 p.rows).getD [] := by rw [hf]; exact ht
  obtain ⟨l, hl, hx⟩ := (h.rows _ _).1 ht'
  rcases hb.each l hl _ hx with h' | ⟨j, u, hj, h'⟩
  · injection h' with _ h'
    injection h' with _ h'
    cases h'
  · injection h' with h1 _
    have hjl := (List.getElem?_eq_some_iff.1 hj).1
    have hr := book_row h hb j hjl
    rw [← h1, hf] at hr
    simp only [Option.getD_some] at hr
    simp only [badRow, hr]
    split
    · simp; omega
    · simp; omega
theorem book_lost {p : Pg} {ls T : List W} (h : PgInv p ls) (hb : OfBook ls T) : lostP p (T.length : Nat) = ((List.range T.length).filter fun i => !foundB ls T i).map fun i : Nat => (i : Int) := by
  unfold lostP
  rw [Int.toNat_natCast]
  congr 1
  apply List.filter_congr
  intro i hi
  rw [List.mem_range] at hi
  rw [book_row h hb i hi]
  cases foundB ls T i <;> simp
theorem book_texts {p : Pg} {ls T : List W} (h : PgInv p ls) (hb : OfBook ls T) (hf : ∀ i, i < T.length → foundB ls T i = true) : textsP p T.length = T := by
  unfold textsP
  apply List.ext_getElem?
  intro i
  by_cases hi : i < T.length
  · rw [List.getElem?_map, List.getElem?_range hi, List.getElem?_eq_getElem hi]
    simp only [Option.map_some]
    rw [book_row h hb i hi, hf i hi]
    simp
  · rw [List.getElem?_eq_none (by simp; omega), List.getElem?_eq_none (by omega)]
theorem book_mend {p : Pg} {ls T : List W} (h : PgInv p ls) (hb : OfBook ls T) : mendP p T.length = ((List.range T.length).filter fun i => !rightB ls T i).map fun i : Nat => (i : Int) := by
  unfold mendP
  congr 1
  apply List.filter_congr
  intro i hi
  rw [List.mem_range] at hi
  have hx := h.exact (i : Int)
  have e : rightB ls T i = false ↔ (afind (i : Int) p.exact).getD 0 = 0 := by
    rw [hx]
    simp only [rightB, List.any_eq_false, Bool.and_eq_true, decide_eq_true_eq, not_and, Bool.not_eq_true]
    constructor
    · intro hq l hl t ht
      rcases hb.each l hl _ ht with h' | ⟨j, u, hj, h'⟩
      · injection h' with _ h'
        injection h' with _ h'
        cases h'
      · injection h' with h1 h'
        injection h' with h2 _
        have : i = j := by omega
        subst this
        rw [List.getElem?_eq_getElem hi] at hj
        injection hj with hj
        exact hq l hl (by rw [ht, h2, ← hj]; simp [hi])
    · intro hq l hl ht
      exact hq l hl _ ht
  cases hr : rightB ls T i with
  | false => simp [e.1 hr]
  | true =>
    have : ¬ (afind (i : Int) p.exact).getD 0 = 0 := fun c => by rw [e.2 c] at hr; cases hr
    simp [this]

/-- Read, of lines of a book. -/
theorem read_book {ls T : List W} (hb : OfBook ls T) : readP (pgTo ls ls.length) = if (List.range T.length).all (foundB ls T) then (T, ((List.range T.length).filter fun i => !rightB ls T i).map fun i : Nat => (i : Int), 0) else ([], [], 142) := by
  have h := pg_all ls
  unfold readP
  rw [book_clash h hb]
  have he := book_ends h hb
  have hl := book_lost h hb
  have hm := book_mend h hb
  simp only [Bool.false_eq_true, if_false, he, hl, Int.toNat_natCast, hm]
  by_cases ha : (List.range T.length).all (foundB ls T) = true
  · rw [if_pos ha]
    have hf : ∀ i, i < T.length → foundB ls T i = true := by
      intro i hi
      rw [List.all_eq_true] at ha
      exact ha i (List.mem_range.2 hi)
    rw [book_texts h hb hf, if_neg]
    rw [List.length_map]
    have : (List.range T.length).filter (fun i => !foundB ls T i) = [] := by
      rw [List.filter_eq_nil_iff]
      intro i hi
      rw [List.mem_range] at hi
      simp [hf i hi]
    rw [this]
    simp
  · rw [if_neg ha, if_pos]
    rw [List.length_map]
    rcases Nat.eq_zero_or_pos ((List.range T.length).filter fun i => !foundB ls T i).length with h0 | h0
    · exfalso
      apply ha
      rw [List.all_eq_true]
      intro i hi
      have := List.eq_nil_of_length_eq_zero h0
      rw [List.filter_eq_nil_iff] at this
      have := this i hi
      simpa using this
    · exact h0
end Go.Bk
