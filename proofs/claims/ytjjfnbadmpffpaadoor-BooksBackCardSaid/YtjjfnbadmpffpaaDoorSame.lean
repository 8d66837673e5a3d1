/- The program reads what the document defines. -/
import Derived.Test.YtjjfnbadmpffpaaDoorWrite
set_option linter.all false

set_option maxRecDepth 8000
namespace Go.Bk
open Go Go.Ev Go.Proofs Go.RowKit

theorem row_kind {r : W} (h : isRow r = true) : (∃ k t, numOf r = (k, t, true) ∧ (manyOf r).2 = false ∧ (parseR r).1 = (k, t, false)) ∨ (∃ e, manyOf r = (e, true) ∧ (numOf r).2.2 = false ∧ (parseR r).1 = (e, [], true)) := by
  have hp := h
  rw [← parse_row] at hp
  by_cases h2 : r.length < 2
  · rw [parse_short h2] at hp; cases hp
  · by_cases hd : r.take 2 = [46, 46]
    · have hdg : dg (r.take 2) = -1 := by rw [hd]; decide
      have hn : (numOf r).2.2 = false := by
        unfold numOf
        split
        · rfl
        · simp only [hdg]; decide
      by_cases h4 : r.length = 4
      · rw [parse_close hd h4] at hp ⊢
        simp only at hp
        refine .inr ⟨dg (r.drop 2), ?_, hn, rfl⟩
        unfold manyOf
        rw [if_neg (by simp [h4, hd]), hp]
      · rw [parse_close' h2 hd h4] at hp; cases hp
    · rw [parse_text h2 hd] at hp ⊢
      simp only [Bool.and_eq_true, decide_eq_true_eq] at hp
      refine .inl ⟨dg (r.take 2), r.drop 2, ?_, by simp [manyOf, hd], rfl⟩
      unfold numOf
      rw [if_neg (by simp [h2, hp.2])]
      simp [hp.1.1, hp.1.2]

theorem parse_inj {r q : W} (hr : isRow r = true) (hq : isRow q = true) (h : (parseR r).1 = (parseR q).1) : r = q := by
  have h1 := (parse_str hr).2.2
  have h2 := (parse_str hq).2.2
  rw [h] at h1
  rw [← h1, h2]

theorem mem_fnd {ls : List W} {x : W × Int} : x ∈ fnd ls ↔ ∃ l ∈ ls, rowOf l = some x.1 ∧ x.2 = if lineOf x.1 = l then 1 else 0 := by
  simp only [fnd, List.mem_filterMap, Option.map_eq_some_iff]
  constructor
  · rintro ⟨l, hl, r, hr, rfl⟩
    exact ⟨l, hl, hr, rfl⟩
  · rintro ⟨l, hl, hr, hx⟩
    exact ⟨l, hl, x.1, hr, by rw [← hx]⟩

theorem fnd_num (ls : List W) (k : Int) (t : W) : (∃ l ∈ ls, rd l = some (k, t, false)) ↔ ∃ x ∈ fnd ls, numOf x.1 = (k, t, true) := by
  constructor
  · rintro ⟨l, hl, h⟩
    simp only [rd, Option.map_eq_some_iff] at h
    obtain ⟨r, hr, hp⟩ := h
    refine ⟨(r, if lineOf r = l then 1 else 0), mem_fnd.2 ⟨l, hl, hr, rfl⟩, ?_⟩
    rcases row_kind (fits_spec ((rowOf_iff _ _).1 hr)).1 with ⟨k', t', h1, _, h2⟩ | ⟨e, _, _, h2⟩
    · rw [h2] at hp; injection hp with a b; injection b with b _; subst a b; exact h1
    · rw [h2] at hp; injection hp with _ b; injection b with _ b; cases b
  · rintro ⟨x, hx, h⟩
    obtain ⟨l, hl, hr, _⟩ := mem_fnd.1 hx
    refine ⟨l, hl, ?_⟩
    simp only [rd, hr, Option.map_some]
    rcases row_kind (fits_spec ((rowOf_iff _ _).1 hr)).1 with ⟨k', t', h1, _, h2⟩ | ⟨e, _, h1, _⟩
    · rw [h] at h1; injection h1 with a b; injection b with b _; subst a b; rw [h2]
    · rw [h] at h1; cases h1
theorem fnd_many (ls : List W) (e : Int) : (∃ l ∈ ls, ∃ t, rd l = some (e, t, true)) ↔ ∃ x ∈ fnd ls, manyOf x.1 = (e, true) := by
  constructor
  · rintro ⟨l, hl, t, h⟩
    simp only [rd, Option.map_eq_some_iff] at h
    obtain ⟨r, hr, hp⟩ := h
    refine ⟨(r, if lineOf r = l then 1 else 0), mem_fnd.2 ⟨l, hl, hr, rfl⟩, ?_⟩
    rcases row_kind (fits_spec ((rowOf_iff _ _).1 hr)).1 with ⟨k', t', h1, _, h2⟩ | ⟨e', h1, _, h2⟩
    · rw [h2] at hp; injection hp with _ b; injection b with _ b; cases b
    · rw [h2] at hp; injection hp with a _; subst a; exact h1
  · rintro ⟨x, hx, h⟩
    obtain ⟨l, hl, hr, _⟩ := mem_fnd.1 hx
    refine ⟨l, hl, [], ?_⟩
    simp only [rd, hr, Option.map_some]
    rcases row_kind (fits_spec ((rowOf_iff _ _).1 hr)).1 with ⟨k', t', _, h1, _⟩ | ⟨e', h1, _, h2⟩
    · rw [h] at h1; cases h1
    · rw [h] at h1; injection h1 with a _; subst a; rw [h2]

theorem textF_spec (F : Fd) (n : Int) : ∀ i, i ≤ F.length → ((textF (F.take i) n).2.2 = true ↔ ∃ x ∈ F.take i, ∃ t, numOf x.1 = (n, t, true)) ∧
    ((textF (F.take i) n).2.2 = true → ∃ x ∈ F.take i, numOf x.1 = (n, (textF (F.take i) n).1, true)) ∧ ((textF (F.take i) n).2.1 = true ↔ ∃ x ∈ F.take i, ∃ t, numOf x.1 = (n, t, true) ∧ x.2 = 1)
  | 0, _ => by simp [textF]
  | i + 1, h => by
    have hi : i < F.length := h
    obtain ⟨h1, h2, h3⟩ := textF_spec F n i (by omega)
    rw [textF_take F n i hi, List.take_succ_eq_append_getElem hi]
    generalize textF (F.take i) n = T at *
    generalize F.take i = L at *
    generalize F[i] = y at *
    unfold tfStep
    rcases hN : numOf y.1 with ⟨k, t, is⟩
    by_cases hc : is = true ∧ k = n
    · obtain ⟨rfl, rfl⟩ := hc
      simp only [decide_true, Bool.and_self, if_true, List.mem_append, List.mem_singleton, Bool.or_eq_true, decide_eq_true_eq]
      refine ⟨⟨fun _ => ⟨y, .inr rfl, t, hN⟩, fun _ => trivial⟩, fun _ => ⟨y, .inr rfl, hN⟩, ?_⟩
      rw [h3]
      constructor
      · rintro (⟨x, hx, t', ht⟩ | h)
        · exact ⟨x, .inl hx, t', ht⟩
        · exact ⟨y, .inr rfl, t, hN, h⟩
      · rintro ⟨x, hx | rfl, t', ht⟩
        · exact .inl ⟨x, hx, t', ht⟩
        · exact .inr ht.2
    · have hb : (is && decide (k = n)) = false := by
        cases is with
        | false => rfl
        | true => simp at hc ⊢; exact hc
      have hno : ∀ t', numOf y.1 ≠ (n, t', true) := by
        intro t' e
        rw [hN] at e
        injection e with e1 e2
        injection e2 with _ e3
        exact hc ⟨e3, e1⟩
      simp only [hb, Bool.false_eq_true, if_false, List.mem_append, List.mem_singleton]
      refine ⟨?_, ?_, ?_⟩
      · rw [h1]
        constructor
        · rintro ⟨x, hx, t', ht⟩; exact ⟨x, .inl hx, t', ht⟩
        · rintro ⟨x, hx | rfl, t', ht⟩
          · exact ⟨x, hx, t', ht⟩
          · exact absurd ht (hno _)
      · intro h
        obtain ⟨x, hx, ht⟩ := h2 h
        exact ⟨x, .inl hx, ht⟩
      · rw [h3]
        constructor
        · rintro ⟨x, hx, t', ht⟩; exact ⟨x, .inl hx, t', ht⟩
        · rintro ⟨x, hx | rfl, t', ht⟩
          · exact ⟨x, hx, t', ht⟩
          · exact absurd ht.1 (hno _)
theorem textF_all (F : Fd) (n : Int) : ((textF F n).2.2 = true ↔ ∃ x ∈ F, ∃ t, numOf x.1 = (n, t, true)) ∧
    ((textF F n).2.2 = true → ∃ x ∈ F, numOf x.1 = (n, (textF F n).1, true)) ∧ ((textF F n).2.1 = true ↔ ∃ x ∈ F, ∃ t, numOf x.1 = (n, t, true) ∧ x.2 = 1) := by
  have := textF_spec F n F.length (Nat.le_refl _)
  rwa [List.take_length] at this

theorem manyF_spec (F : Fd) : ∀ i, i ≤ F.length → (manyF (F.take i) = -1 ∨ ∃ x ∈ F.take i, manyOf x.1 = (manyF (F.take i), true)) ∧ ∀ x ∈ F.take i, ∀ e, manyOf x.1 = (e, true) → e ≤ manyF (F.take i)
  | 0, _ => by simp [manyF]
  | i + 1, h => by
    have hi : i < F.length := h
    obtain ⟨h1, h2⟩ := manyF_spec F i (by omega)
    rw [manyF_take F i hi, List.take_succ_eq_append_getElem hi]
    generalize manyF (F.take i) = M at *
    generalize F.take i = L at *
    generalize F[i] = y at *
    unfold mStep
    rcases hN : manyOf y.1 with ⟨k, is⟩
    cases is with
    | true =>
      simp only [if_true]
      refine ⟨?_, ?_⟩
      · by_cases hk : M < k
        · rw [if_pos hk]; exact .inr ⟨y, by simp, hN⟩
        · rw [if_neg hk]
          rcases h1 with h1 | ⟨x, hx, h1⟩
          · exact .inl h1
          · exact .inr ⟨x, by simp [hx], h1⟩
      · intro x hx e he
        rcases List.mem_append.1 hx with hx | hx
        · have := h2 x hx e he; split <;> omega
        · simp at hx; subst hx; rw [hN] at he; injection he with he _; split <;> omega
    | false =>
      simp only [Bool.false_eq_true, if_false]
      refine ⟨?_, ?_⟩
      · rcases h1 with h1 | ⟨x, hx, h1⟩
        · exact .inl h1
        · exact .inr ⟨x, by simp [hx], h1⟩
      · intro x hx e he
        rcases List.mem_append.1 hx with hx | hx
        · exact h2 x hx e he
        · simp at hx; subst hx; rw [hN] at he; injection he with _ he; cases he
theorem manyF_all (F : Fd) : (manyF F = -1 ∨ ∃ x ∈ F, manyOf x.1 = (manyF F, true)) ∧ ∀ x ∈ F, ∀ e, manyOf x.1 = (e, true) → e ≤ manyF F := by
  have := manyF_spec F F.length (Nat.le_refl _)
  rwa [List.take_length] at this

theorem cl_comm (a b : W) : cl a b = cl b a := by
  unfold cl
  obtain ⟨n, s, is⟩ := numOf a
  obtain ⟨m, t, so⟩ := numOf b
  cases is <;> cases so <;> simp only [Bool.and_self, Bool.false_and, Bool.and_false, Bool.true_and, Bool.and_true, if_true, if_false, Bool.false_eq_true] <;> congr 1 <;> simp [eq_comm]
theorem cl_self (a : W) : cl a a = false := by
  unfold cl
  obtain ⟨n, s, is⟩ := numOf a
  cases is <;> simp
theorem clashF_iff (F : Fd) : clashF F = true ↔ ∃ x ∈ F, ∃ y ∈ F, cl x.1 y.1 = true := by
  constructor
  · intro h
    simp only [clashF, List.any_eq_true, List.mem_range] at h
    obtain ⟨i, hi, k, hk, h⟩ := h
    have hk' : k < F.length := by omega
    simp only [gF, List.getD_eq_getElem?_getD, List.getElem?_eq_getElem hi, List.getElem?_eq_getElem hk', Option.getD_some] at h
    exact ⟨_, List.getElem_mem hi, _, List.getElem_mem hk', h⟩
  · rintro ⟨x, hx, y, hy, h⟩
    obtain ⟨i, hi, rfl⟩ := List.mem_iff_getElem.1 hx
    obtain ⟨k, hk, rfl⟩ := List.mem_iff_getElem.1 hy
    have e1 : gF F i = F[i].1 := by simp [gF, hi]
    have e2 : gF F k = F[k].1 := by simp [gF, hk]
    rcases Nat.lt_trichotomy i k with hlt | heq | hlt
    · exact clashF_yes hk hlt (by rw [e1, e2, cl_comm]; exact h)
    · subst heq; rw [cl_self] at h; cases h
    · exact clashF_yes hi hlt (by rw [e1, e2]; exact h)

theorem two_mem {α : Type} {l : List α} (h : 1 < l.length) (hn : l.Nodup) : ∃ a ∈ l, ∃ b ∈ l, a ≠ b := by
  match l, h, hn with
  | a :: b :: r, _, hn => exact ⟨a, by simp, b, by simp, fun e => by subst e; simp at hn⟩
theorem len_two {α : Type} {l : List α} {a b : α} (ha : a ∈ l) (hb : b ∈ l) (h : a ≠ b) : 1 < l.length := by
  match l, ha, hb with
  | [c], ha, hb => simp at ha hb; exact absurd (ha.trans hb.symm) h
  | a :: b :: r, _, _ => simp

theorem clash_eq (ls : List W) : clashF (fnd ls) = clashP (pgTo ls ls.length) := by
  have h := pg_all ls
  generalize pgTo ls ls.length = p at *
  have key : clashF (fnd ls) = true ↔ clashP p = true := by
    rw [clashF_iff]
    constructor
    · rintro ⟨x, hx, y, hy, hc⟩
      have hrx := fnd_row hx
      have hry := fnd_row hy
      have rowIn : ∀ (k : Int) (t : W), (∃ x ∈ fnd ls, numOf x.1 = (k, t, true)) → ∃ ts, (k, ts) ∈ p.rows ∧ t ∈ ts := by
        intro k t hz
        have := (h.rows k t).2 ((fnd_num ls k t).2 hz)
        cases hf : afind k p.rows with
        | none => rw [hf] at this; cases this
        | some ts => rw [hf] at this; exact ⟨ts, mem_afind hf, this⟩
      have endIn : ∀ e : Int, (∃ x ∈ fnd ls, manyOf x.1 = (e, true)) → e ∈ p.ends := fun e hz => (h.ends e).2 ((fnd_many ls e).2 hz)
      have mixed : ∀ (k : Int) (t : W) (e : Int), (∃ x ∈ fnd ls, numOf x.1 = (k, t, true)) → (∃ x ∈ fnd ls, manyOf x.1 = (e, true)) → e ≤ k → clashP p = true := by
        intro k t e hk he hle
        obtain ⟨ts, hm, _⟩ := rowIn k t hk
        have he' := endIn e he
        unfold clashP
        by_cases h1 : 1 < p.ends.length
        · simp [h1]
        · have : p.rows.any (badRow p.ends) = true := by
            rw [List.any_eq_true]
            refine ⟨_, hm, ?_⟩
            match hends : p.ends with
            | [] => rw [hends] at he'; cases he'
            | [e0] =>
              rw [hends] at he'
              simp at he'
              subst he'
              simp [badRow, hle]
            | _ :: _ :: _ => rw [hends] at h1; simp at h1
          simp [this]
      rcases row_kind hrx with ⟨k, t, a1, _, _⟩ | ⟨e, a1, a2, a3⟩
      · rcases row_kind hry with ⟨m, u, b1, _, _⟩ | ⟨e', b1, b2, _⟩
        · unfold cl at hc
          simp only [a1, b1, Bool.and_self, if_true, Bool.and_eq_true, decide_eq_true_eq] at hc
          obtain ⟨rfl, hne⟩ := hc
          obtain ⟨ts, hm, ht⟩ := rowIn k t ⟨x, hx, a1⟩
          obtain ⟨ts', hm', ht'⟩ := rowIn k u ⟨y, hy, b1⟩
          have e1 := afind_mem h.keysN hm
          have e2 := afind_mem h.keysN hm'
          simp only at e1 e2
          rw [e1] at e2
          injection e2 with e2
          subst e2
          have : p.rows.any (badRow p.ends) = true := by
            rw [List.any_eq_true]
            refine ⟨_, hm, ?_⟩
            have := len_two ht ht' hne
            simp [badRow, this]
          simp [clashP, this]
        · unfold cl at hc
          simp only [a1, b1, b2, Bool.and_false, Bool.false_eq_true, if_false, if_true, decide_eq_true_eq] at hc
          exact mixed k t e' ⟨x, hx, a1⟩ ⟨y, hy, b1⟩ hc
      · rcases row_kind hry with ⟨m, u, b1, _, _⟩ | ⟨e', b1, b2, b3⟩
        · unfold cl at hc
          simp only [a1, a2, b1, Bool.false_and, Bool.false_eq_true, if_false, if_true, decide_eq_true_eq] at hc
          exact mixed m u e ⟨y, hy, b1⟩ ⟨x, hx, a1⟩ hc
        · unfold cl at hc
          simp only [a2, b2, Bool.false_and, Bool.false_eq_true, if_false, decide_eq_true_eq] at hc
          have hne : e ≠ e' := by
            rintro rfl
            exact hc (parse_inj hrx hry (by rw [a3, b3]))
          have := len_two (endIn e ⟨x, hx, a1⟩) (endIn e' ⟨y, hy, b1⟩) hne
          simp [clashP, this]
    · intro hc
      simp only [clashP, Bool.or_eq_true, decide_eq_true_eq] at hc
      have numIn : ∀ (k : Int) (t : W) (ts : List W), (k, ts) ∈ p.rows → t ∈ ts → ∃ x ∈ fnd ls, numOf x.1 = (k, t, true) := by
        intro k t ts hm ht
        have e1 := afind_mem h.keysN hm
        simp only at e1
        exact (fnd_num ls k t).1 ((h.rows k t).1 (by rw [e1]; exact ht))
      rcases hc with hc | hc
      · obtain ⟨a, ha, b, hb, hab⟩ := two_mem hc h.endsN
        obtain ⟨x, hx, hxa⟩ := (fnd_many ls a).1 ((h.ends a).1 ha)
        obtain ⟨y, hy, hyb⟩ := (fnd_many ls b).1 ((h.ends b).1 hb)
        refine ⟨x, hx, y, hy, ?_⟩
        rcases row_kind (fnd_row hx) with ⟨_, _, _, c, _⟩ | ⟨e, a1, a2, _⟩
        · rw [hxa] at c; cases c
        · rcases row_kind (fnd_row hy) with ⟨_, _, _, c, _⟩ | ⟨e', b1, b2, _⟩
          · rw [hyb] at c; cases c
          · unfold cl
            simp only [a2, b2, Bool.false_and, Bool.false_eq_true, if_false, decide_eq_true_eq]
            intro e0
            rw [e0, hyb] at hxa
            injection hxa with hxa _
            exact hab hxa.symm
      · rw [List.any_eq_true] at hc
        obtain ⟨⟨k, ts⟩, hm, hbad⟩ := hc
        simp only [badRow, Bool.or_eq_true, decide_eq_true_eq] at hbad
        rcases hbad with hb | hb
        · have hnd := h.rowsN k
          have e1 := afind_mem h.keysN hm
          simp only at e1
          rw [e1] at hnd
          obtain ⟨t, ht, u, hu, hne⟩ := two_mem hb hnd
          obtain ⟨x, hx, hxa⟩ := numIn k t ts hm ht
          obtain ⟨y, hy, hyb⟩ := numIn k u ts hm hu
          refine ⟨x, hx, y, hy, ?_⟩
          simp [cl, hxa, hyb, hne]
        · have hne := h.full _ hm
          obtain ⟨t, ht⟩ : ∃ t, t ∈ ts := by
            cases hq2 : ts with
            | nil => exact absurd hq2 hne
            | cons a r => exact ⟨a, by simp⟩
          obtain ⟨x, hx, hxa⟩ := numIn k t ts hm ht
          cases hends : p.ends with
          | nil => rw [hends] at hb; cases hb
          | cons e es =>
            rw [hends] at hb
            simp only [decide_eq_true_eq] at hb
            obtain ⟨y, hy, hyb⟩ := (fnd_many ls e).1 ((h.ends e).1 (by rw [hends]; simp))
            refine ⟨x, hx, y, hy, ?_⟩
            rcases row_kind (fnd_row hy) with ⟨_, _, _, c, _⟩ | ⟨e', b1, b2, _⟩
            · rw [hyb] at c; cases c
            · simp [cl, hxa, b2, hyb, hb]
  cases h1 : clashF (fnd ls) with
  | true => exact (key.1 h1).symm
  | false =>
    cases h2 : clashP p with
    | false => rfl
    | true => rw [key.2 h2] at h1; cases h1

theorem is_iff (ls : List W) {p : Pg} (h : PgInv p ls) (i : Int) : (textF (fnd ls) i).2.2 = true ↔ (afind i p.rows).getD [] ≠ [] := by
  rw [(textF_all (fnd ls) i).1]
  constructor
  · rintro ⟨x, hx, t, ht⟩ e
    have := (h.rows i t).2 ((fnd_num ls i t).2 ⟨x, hx, ht⟩)
    rw [e] at this
    cases this
  · intro hne
    obtain ⟨t, ht⟩ : ∃ t, t ∈ (afind i p.rows).getD [] := by
      cases hq2 : (afind i p.rows).getD [] with
      | nil => exact absurd hq2 hne
      | cons a r => exact ⟨a, by simp⟩
    obtain ⟨x, hx, hxa⟩ := (fnd_num ls i t).1 ((h.rows i t).1 ht)
    exact ⟨x, hx, t, hxa⟩
theorem lost_eq (ls : List W) {p : Pg} (h : PgInv p ls) (m : Nat) : lostF (fnd ls) m = lostP p (m : Nat) := by
  unfold lostF lostP
  rw [Int.toNat_natCast]
  congr 1
  apply List.filter_congr
  intro i _
  have := is_iff ls h (i : Int)
  cases hx : (textF (fnd ls) (i : Int)).2.2 with
  | true =>
    have := this.1 hx
    cases hq2 : (afind (i : Int) p.rows).getD [] with
    | nil => exact absurd hq2 this
    | cons a r => simp
  | false =>
    have : (afind (i : Int) p.rows).getD [] = [] := by
      rcases Classical.em ((afind (i : Int) p.rows).getD [] = []) with e | e
      · exact e
      · rw [this.2 e] at hx; cases hx
    simp [this]
theorem mend_eq (ls : List W) {p : Pg} (h : PgInv p ls) (m : Nat) : mendF (fnd ls) m = mendP p m := by
  unfold mendF mendP
  congr 1
  apply List.filter_congr
  intro i _
  have h1 := (textF_all (fnd ls) (i : Int)).2.2
  have h2 := h.exact (i : Int)
  have key : (textF (fnd ls) (i : Int)).2.1 = true ↔ ¬ (afind (i : Int) p.exact).getD 0 = 0 := by
    rw [h1, h2]
    constructor
    · rintro ⟨x, hx, t, ht, hr⟩ hall
      obtain ⟨l, hl, ho, hx2⟩ := mem_fnd.1 hx
      have hrd : rd l = some ((i : Int), t, false) := by
        simp only [rd, ho, Option.map_some]
        rcases row_kind (fnd_row hx) with ⟨k', t', a1, _, a2⟩ | ⟨e, _, a1, _⟩
        · rw [ht] at a1; injection a1 with a b; injection b with b _; subst a b; rw [a2]
        · rw [ht] at a1; cases a1
      have := hall l hl t hrd
      simp only [ex, ho, decide_eq_false_iff_not] at this
      rw [if_neg this] at hx2
      omega
    · intro hno
      rcases Classical.em (∃ x ∈ fnd ls, ∃ t, numOf x.1 = ((i : Int), t, true) ∧ x.2 = 1) with e | e
      · exact e
      · exfalso
        apply hno
        intro l hl t hrd
        simp only [rd, Option.map_eq_some_iff] at hrd
        obtain ⟨r, ho, hp⟩ := hrd
        simp only [ex, ho, decide_eq_false_iff_not]
        intro hlo
        apply e
        have hmem : (r, (1 : Int)) ∈ fnd ls := mem_fnd.2 ⟨l, hl, ho, by simp [hlo]⟩
        refine ⟨_, hmem, t, ?_, rfl⟩
        rcases row_kind (fnd_row hmem) with ⟨k', t', a1, _, a2⟩ | ⟨e, _, _, a2⟩
        · simp only at a1 a2; rw [a2] at hp; injection hp with a b; injection b with b _; subst a b; exact a1
        · simp only at a2; rw [a2] at hp; injection hp with _ b; injection b with _ b; cases b
  cases hx : (textF (fnd ls) (i : Int)).2.1 with
  | true => have := key.1 hx; simp [this]
  | false =>
    have : (afind (i : Int) p.exact).getD 0 = 0 := by
      rcases Classical.em ((afind (i : Int) p.exact).getD 0 = 0) with e | e
      · exact e
      · rw [key.2 e] at hx; cases hx
    simp [this]

theorem many_ends (ls : List W) {p : Pg} (h : PgInv p ls) : (p.ends = [] → manyF (fnd ls) = -1) ∧ (p.ends ≠ [] → manyF (fnd ls) ∈ p.ends ∧ ∀ e ∈ p.ends, e ≤ manyF (fnd ls)) := by
  obtain ⟨h1, h2⟩ := manyF_all (fnd ls)
  constructor
  · intro he
    rcases h1 with h1 | h1
    · exact h1
    · have := (h.ends _).2 ((fnd_many ls _).2 h1)
      rw [he] at this
      cases this
  · intro he
    have hle : ∀ e ∈ p.ends, e ≤ manyF (fnd ls) := by
      intro e hm
      obtain ⟨x, hx, hxa⟩ := (fnd_many ls e).1 ((h.ends e).1 hm)
      exact h2 x hx e hxa
    refine ⟨?_, hle⟩
    rcases h1 with h1 | h1
    · obtain ⟨e, hm⟩ : ∃ e, e ∈ p.ends := by
        cases hq2 : p.ends with
        | nil => exact absurd hq2 he
        | cons a r => exact ⟨a, by simp⟩
      obtain ⟨x, hx, hxa⟩ := (fnd_many ls e).1 ((h.ends e).1 hm)
      have hr := fnd_row hx
      have h3 := hle e hm
      rcases row_kind hr with ⟨_, _, _, c, _⟩ | ⟨e', a1, _, a2⟩
      · rw [hxa] at c; cases c
      · have := (parse_str hr).1
        rw [a2] at this
        rw [hxa] at a1
        injection a1 with a1 _
        simp only at this
        omega
    · exact (h.ends _).2 ((fnd_many ls _).2 h1)

theorem allF_lost (F : Fd) (m : Nat) : allF F m = decide (lostF F m = []) := by
  rw [Bool.eq_iff_iff, decide_eq_true_eq]
  unfold allF lostF
  rw [List.all_eq_true, List.map_eq_nil_iff, List.filter_eq_nil_iff]
  constructor
  · intro h a ha
    rw [h a ha]; simp
  · intro h a ha
    have := h a ha
    simpa using this

theorem read_eq (ls : List W) : readF (fnd ls) = readP (pgTo ls ls.length) := by
  have hc := clash_eq ls
  have h := pg_all ls
  unfold readF readP
  rw [hc]
  generalize pgTo ls ls.length = p at *
  cases hcl : clashP p with
  | true => rfl
  | false =>
    simp only [Bool.false_eq_true, if_false]
    obtain ⟨m1, m2⟩ := many_ends ls h
    cases hends : p.ends with
    | nil => rw [m1 hends, if_pos (by omega)]
    | cons e es =>
      have hes : es = [] := by
        cases es with
        | nil => rfl
        | cons a r => rw [clashP, hends] at hcl; simp at hcl
      subst hes
      have hm := (m2 (by rw [hends]; simp)).1
      rw [hends] at hm
      simp at hm
      obtain ⟨l, hl, t, hrd⟩ := (h.ends e).1 (by rw [hends]; simp)
      have he0 : 0 ≤ e := by
        simp only [rd, Option.map_eq_some_iff] at hrd
        obtain ⟨r, hr, hp⟩ := hrd
        have := (parse_str (fits_spec ((rowOf_iff _ _).1 hr)).1).1
        rw [hp] at this
        exact this
      obtain ⟨m, rfl⟩ : ∃ m : Nat, e = m := ⟨e.toNat, by omega⟩
      rw [hm, if_neg (by omega), Int.toNat_natCast, allF_lost, lost_eq ls h, mend_eq ls h]
      by_cases h0 : lostP p (m : Nat) = []
      · simp only [h0, decide_true, if_true]
        have : ¬ 0 < ([] : List Int).length := by simp
        rw [if_neg this]
        refine Prod.ext ?_ rfl
        simp only
        unfold textsF textsP
        apply List.map_congr_left
        intro i hi
        rw [List.mem_range] at hi
        have hne := lostP_nil (by rw [h0]; rfl) i hi
        have his := (is_iff ls h (i : Int)).2 hne
        obtain ⟨x, hx, hxa⟩ := (textF_all (fnd ls) (i : Int)).2.1 his
        have hin := (h.rows _ _).2 ((fnd_num ls _ _).2 ⟨x, hx, hxa⟩)
        have hone : ((afind (i : Int) p.rows).getD []).length ≤ 1 := by
          cases hf : afind (i : Int) p.rows with
          | none => simp
          | some ts =>
            have hmem := mem_afind hf
            simp only [clashP, Bool.or_eq_false_iff, List.any_eq_false] at hcl
            have := hcl.2 _ hmem
            simp [badRow] at this
            simp
            omega
        generalize (afind (i : Int) p.rows).getD [] = ts at *
        match ts, hone with
        | [], _ => cases hin
        | [a], _ => simp at hin; simp [hin]
      · have h0' : 0 < (lostP p (m : Nat)).length := List.length_pos_iff.2 h0
        simp [h0]
theorem rrB_eq (b : W) : rrB b = readB b := by
  unfold rrB readB
  cases cutL b with
  | none => rfl
  | some ls => exact read_eq ls
end Go.Bk

/- The lines of a string, written books, and lines that are near to those of a book; the examples of the chapter. -/
set_option maxRecDepth 8000
namespace Go.Bk
open Go Go.Ev Go.Proofs Go.RowKit

/-- Lines with their line feeds. -/
def jn : List W → W
  | [] => []
  | l :: r => l ++ (10 :: jn r)
theorem jn_app (a b : List W) : jn (a ++ b) = jn a ++ jn b := by
  induction a with
  | nil => rfl
  | cons x a ih => simp [jn, ih]
theorem jn_len (a : List W) : (jn a).length = total a := by
  induction a with
  | nil => rfl
  | cons x a ih =>
    simp only [jn, List.length_append, List.length_cons, ih, total, List.map_cons, List.sum_cons]
    omega
theorem jn_last (a : List W) (h : a ≠ []) : (jn a).getLast? = some 10 := by
  match a, h with
  | [x], _ => simp [jn]
  | x :: y :: r, _ =>
    have := jn_last (y :: r) (by simp)
    have hn : jn (y :: r) ≠ [] := by simp [jn]
    simp only [jn] at this ⊢
    rw [List.getLast?_append, List.getLast?_cons, this]
    rfl
theorem ln_fold (l : W) (h : (10 : UInt8) ∉ l) : ∀ (A : List W) (r : W), l.foldl lnStep (A, r) = (A, r ++ l) := by
  induction l with
  | nil => intro A r; simp
  | cons c l ih =>
    intro A r
    have h1 : c ≠ 10 := fun e => h (by simp [e])
    have h2 : (10 : UInt8) ∉ l := fun e => h (by simp [e])
    rw [List.foldl_cons]
    have e : lnStep (A, r) c = (A, r ++ [c]) := by simp [lnStep, h1]
    rw [e, ih h2]
    simp
theorem jn_fold (ls : List W) (h : ∀ l ∈ ls, (10 : UInt8) ∉ l) : ∀ A : List W, (jn ls).foldl lnStep (A, []) = (A ++ ls, []) := by
  induction ls with
  | nil => intro A; simp [jn]
  | cons l ls ih =>
    intro A
    have h1 := h l (by simp)
    simp only [jn, List.foldl_append, ln_fold l h1, List.foldl_cons]
    have e : lnStep (A, [] ++ l) 10 = (A ++ [l], []) := by simp [lnStep]
    rw [e, ih (fun l' hl => h l' (by simp [hl]))]
    simp
theorem cut_jn (ls : List W) (hne : ls ≠ []) (h : ∀ l ∈ ls, (10 : UInt8) ∉ l) : cutL (jn ls) = some ls := by
  unfold cutL
  rw [if_pos (jn_last ls hne)]
  have := jn_fold ls h []
  unfold lns
  rw [this]
  simp
theorem lns_jn (s : W) : jn (lns s).1 ++ (lns s).2 = s ∧ (10 : UInt8) ∉ (lns s).2 ∧ ∀ l ∈ (lns s).1, (10 : UInt8) ∉ l := by
  have : ∀ (n : Nat) (s : W), s.length = n → jn (lns s).1 ++ (lns s).2 = s ∧ (10 : UInt8) ∉ (lns s).2 ∧ ∀ l ∈ (lns s).1, (10 : UInt8) ∉ l := by
    intro n
    induction n with
    | zero =>
      intro s h
      have : s = [] := List.eq_nil_of_length_eq_zero h
      subst this
      simp [lns, jn]
    | succ n ih =>
      intro s h
      have hs : s = s.take n ++ [s[n]] := by
        have := List.take_succ_eq_append_getElem (l := s) (i := n) (by omega)
        rw [← this, List.take_of_length_le (by omega)]
      obtain ⟨h1, h2, h3⟩ := ih (s.take n) (by simp; omega)
      generalize s[n] = c at hs
      generalize s.take n = t at *
      subst hs
      rw [lns_snoc]
      unfold lnStep
      split
      · rename_i hc
        subst hc
        refine ⟨?_, by simp, fun l hl => ?_⟩
        · simp only
          rw [jn_app]
          conv => rhs; rw [← h1]
          simp [jn]
        · rcases List.mem_append.1 hl with hl | hl
          · exact h3 l hl
          · simp at hl; subst hl; exact h2
      · rename_i hc
        refine ⟨?_, ?_, h3⟩
        · simp only
          conv => rhs; rw [← h1]
          simp
        · simp only [List.mem_append, List.mem_singleton, not_or]
          exact ⟨h2, Ne.symm hc⟩
  exact this _ s rfl
theorem cut_spec {b : W} {ls : List W} (h : cutL b = some ls) : b = jn ls ∧ ls ≠ [] ∧ ∀ l ∈ ls, (10 : UInt8) ∉ l := by
  obtain ⟨h1, h2, h3⟩ := lns_jn b
  unfold cutL at h
  split at h
  · rename_i hl
    injection h with h
    subst h
    have hnil : (lns b).2 = [] := by
      cases hx : (lns b).2 with
      | nil => rfl
      | cons a r =>
        rw [hx] at h1 h2
        rw [← h1, List.getLast?_append] at hl
        have : (a :: r).getLast? = some 10 := by
          cases hz : (a :: r).getLast? with
          | none => simp at hz
          | some z => rw [hz] at hl; simpa using hl
        exact absurd (List.mem_of_getLast? this) h2
    rw [hnil, List.append_nil] at h1
    refine ⟨h1.symm, ?_, h3⟩
    intro e
    rw [e] at h1
    rw [← h1] at hl
    simp [jn] at hl
  · cases h
theorem total_mem {ls : List W} {l : W} (h : l ∈ ls) : l.length + 1 ≤ total ls := by
  induction ls with
  | nil => cases h
  | cons x ls ih =>
    simp only [total, List.map_cons, List.sum_cons] at *
    rcases List.mem_cons.1 h with rfl | h
    · omega
    · have := ih h; omega
theorem total_len (ls : List W) : ls.length ≤ total ls := by
  induction ls with
  | nil => simp [total]
  | cons x ls ih =>
    simp only [total, List.map_cons, List.sum_cons, List.length_cons] at *
    omega
theorem cut_bound (b : W) (hb : b.length ≤ 9000) : ∀ ls, cutL b = some ls → ls.length ≤ 100000 ∧ ∀ l ∈ ls, l.length ≤ 10000 := by
  intro ls h
  obtain ⟨h1, _, _⟩ := cut_spec h
  have h2 := jn_len ls
  rw [← h1] at h2
  have h3 := total_len ls
  refine ⟨by omega, fun l hl => ?_⟩
  have := total_mem hl
  omega

/-- The lines of a book. -/
def bkR (T : List W) (i : Nat) : W := if i < T.length then rowS i (T.getD i []) false else rowS T.length [] true
def bkN (T : List W) (i : Nat) : W := lineOf (bkR T i)
def bkL (T : List W) : List W := (List.range (T.length + 1)).map (bkN T)
theorem wrT_jn (T : List W) : ∀ i, i ≤ T.length → wrT T i = jn ((List.range i).map (bkN T))
  | 0, _ => rfl
  | i + 1, h => by
    have hi : i < T.length := h
    rw [List.range_succ, List.map_append, jn_app, ← wrT_jn T i (by omega)]
    simp [wrT, lnT, jn, bkN, bkR, hi]
theorem wrB_jn (T : List W) : wrB T = jn (bkL T) := by
  unfold wrB bkL
  rw [List.range_succ, List.map_append, jn_app, ← wrT_jn T T.length (Nat.le_refl _)]
  simp [jn, bkN, bkR]
theorem bkL_len (T : List W) : (bkL T).length = T.length + 1 := by simp [bkL]
theorem bkL_get (T : List W) (i : Nat) (h : i < T.length + 1) : (bkL T)[i]? = some (bkN T i) := by simp [bkL, h]

structure Texts (T : List W) : Prop where
  len : T.length ≤ 40
  tx : ∀ s ∈ T, tx s = true
theorem texts_err {T : List W} : errT T = 0 ↔ Texts T := by
  constructor
  · intro h
    exact ⟨(errT_ok h).1, (errT_ok h).2⟩
  · intro h
    have h1 : ¬ 40 < T.length := by have := h.len; omega
    have h2 : T.all tx = true := List.all_eq_true.2 h.tx
    simp [errT, h1, h2]

theorem dots_two {n : Nat} (h : n < 100) : two n ≠ [46, 46] := fun e => by
  have := dg_two h
  rw [e] at this
  have h2 : dg [46, 46] = -1 := by decide
  rw [h2] at this
  omega
theorem row_text {n : Nat} {t : W} (hn : n < 40) (ht : tx t = true) : isRow (rowS n t false) = true ∧ (parseR (rowS n t false)).1 = ((n : Int), t, false) := by
  have h2 : (two n).length = 2 := rfl
  have e1 : (rowS n t false).take 2 = two n := by simp [rowS, two]
  have e2 : (rowS n t false).drop 2 = t := by simp [rowS, two]
  have hl : ¬ (rowS n t false).length < 2 := by simp [rowS, h2]
  have hp := parse_text hl (by rw [e1]; exact dots_two (by omega))
  rw [e1, e2, dg_two (by omega)] at hp
  constructor
  · rw [← parse_row, hp]
    have h4 : (n : Int) < 40 := by omega
    simp [ht, h4]
  · rw [hp]
theorem row_close {n : Nat} (hn : n ≤ 40) : isRow (rowS n [] true) = true ∧ (parseR (rowS n [] true)).1 = ((n : Int), [], true) := by
  have e1 : (rowS n [] true).take 2 = [46, 46] := by simp [rowS]
  have e2 : (rowS n [] true).drop 2 = two n := by simp [rowS]
  have hl : (rowS n [] true).length = 4 := by simp [rowS, two]
  have hp := parse_close e1 hl
  rw [e2, dg_two (by omega)] at hp
  constructor
  · rw [← parse_row, hp]
    have h4 : (n : Int) ≤ 40 := by omega
    simp [h4]
  · rw [hp]
def bkP (T : List W) (i : Nat) : Int × W × Bool := if i < T.length then ((i : Int), T.getD i [], false) else ((T.length : Int), [], true)
theorem bkR_row {T : List W} (h : Texts T) (i : Nat) : isRow (bkR T i) = true ∧ (parseR (bkR T i)).1 = bkP T i := by
  have := h.len
  unfold bkR bkP
  split
  · exact row_text (by omega) (get_tx h.tx i)
  · exact row_close h.len

/-- A line is near to that of a row. -/
theorem rd_near {l r : W} (hr : isRow r = true) (hl : l.length = r.length + 4) (hd : diff l (lineOf r) ≤ 1) : rd l = some (parseR r).1 ∧ ex l = decide (l = lineOf r) := by
  have h := rowOf_of_fits (fits_mk hr hl hd)
  refine ⟨by simp [rd, h], ?_⟩
  simp only [ex, h]
  by_cases e : lineOf r = l
  · simp [e]
  · simp [e, Ne.symm e]

def Near (T : List W) (i : Nat) (l : W) : Prop := l.length = (bkN T i).length ∧ diff l (bkN T i) ≤ 1
theorem near_self (T : List W) (i : Nat) : Near T i (bkN T i) := ⟨rfl, by rw [diff_self]; omega⟩
theorem near_rd {T : List W} (h : Texts T) {i : Nat} {l : W} (hn : Near T i l) : rd l = some (bkP T i) ∧ ex l = decide (l = bkN T i) := by
  obtain ⟨h1, h2⟩ := bkR_row h i
  obtain ⟨h3, h4⟩ := hn
  have := rd_near h1 (by rw [h3, bkN, lineOf_len]) h4
  rw [h2] at this
  exact this
theorem bkP_inj {T : List W} {i j : Nat} (hi : i ≤ T.length) (hj : j ≤ T.length) (h : bkP T i = bkP T j) : i = j := by
  unfold bkP at h
  split at h <;> split at h
  · injection h with h _; omega
  · injection h with _ h; injection h with _ h; cases h
  · injection h with _ h; injection h with _ h; cases h
  · omega

/-- Lines, each of which is near to one of a book's, or cannot be read. -/
theorem of_near {T : List W} (h : Texts T) {ls : List W} (h1 : ∀ l ∈ ls, rd l = none ∨ ∃ i, i ≤ T.length ∧ Near T i l) (h2 : ∃ l ∈ ls, Near T T.length l) : OfBook ls T := by
  constructor
  · intro l hl x hx
    rcases h1 l hl with h1 | ⟨i, hi, hn⟩
    · rw [h1] at hx; cases hx
    · rw [(near_rd h hn).1] at hx
      injection hx with hx
      subst hx
      unfold bkP
      split
      · rename_i hlt
        exact .inr ⟨i, T[i], by simp [hlt], by simp [hlt]⟩
      · exact .inl rfl
  · obtain ⟨l, hl, hn⟩ := h2
    refine ⟨l, hl, ?_⟩
    rw [(near_rd h hn).1]
    simp [bkP]
theorem found_near {T : List W} (h : Texts T) {ls : List W} (h1 : ∀ l ∈ ls, rd l = none ∨ ∃ i, i ≤ T.length ∧ Near T i l) {i : Nat} (hi : i < T.length) : foundB ls T i = true ↔ ∃ l ∈ ls, Near T i l := by
  have e : ((i : Int), T.getD i [], false) = bkP T i := by simp [bkP, hi]
  simp only [foundB, List.any_eq_true, decide_eq_true_eq, e]
  constructor
  · rintro ⟨l, hl, hx⟩
    rcases h1 l hl with h1 | ⟨j, hj, hn⟩
    · rw [h1] at hx; cases hx
    · rw [(near_rd h hn).1] at hx
      injection hx with hx
      have := bkP_inj hj (by omega) hx
      subst this
      exact ⟨l, hl, hn⟩
  · rintro ⟨l, hl, hn⟩
    exact ⟨l, hl, (near_rd h hn).1⟩
theorem right_near {T : List W} (h : Texts T) {ls : List W} (h1 : ∀ l ∈ ls, rd l = none ∨ ∃ i, i ≤ T.length ∧ Near T i l) {i : Nat} (hi : i < T.length) : rightB ls T i = true ↔ bkN T i ∈ ls := by
  have e : ((i : Int), T.getD i [], false) = bkP T i := by simp [bkP, hi]
  simp only [rightB, List.any_eq_true, decide_eq_true_eq, e, Bool.and_eq_true]
  constructor
  · rintro ⟨l, hl, hx, hex⟩
    rcases h1 l hl with h1 | ⟨j, hj, hn⟩
    · rw [h1] at hx; cases hx
    · rw [(near_rd h hn).1] at hx
      injection hx with hx
      have := bkP_inj hj (by omega) hx
      subst this
      rw [(near_rd h hn).2, decide_eq_true_eq] at hex
      rw [← hex]
      exact hl
  · intro hl
    refine ⟨_, hl, (near_rd h (near_self T i)).1, ?_⟩
    rw [(near_rd h (near_self T i)).2]
    simp

theorem plain_nl {s : W} (h : plain s) : (10 : UInt8) ∉ s := fun e => by
  have := h _ e
  simp at this
theorem lineOf_plain {r : W} (h : plain r) : plain (lineOf r) := by
  intro c hc
  simp only [lineOf, List.mem_append] at hc
  rcases hc with (hc | hc) | hc
  · exact h c hc
  · exact two_plain _ (by omega) c hc
  · exact two_plain _ (by omega) c hc
theorem bkN_plain {T : List W} (h : Texts T) (i : Nat) : plain (bkN T i) := lineOf_plain (row_plain (bkR_row h i).1).1
theorem bkN_len {T : List W} (h : Texts T) (i : Nat) : (bkN T i).length ≤ 66 ∧ 6 ≤ (bkN T i).length := by
  have := row_plain (bkR_row h i).1
  simp only [bkN, lineOf_len]
  omega
theorem bk_cut {T : List W} (h : Texts T) : cutL (wrB T) = some (bkL T) := by
  rw [wrB_jn]
  refine cut_jn _ ?_ ?_
  · intro e; have := bkL_len T; rw [e] at this; simp at this
  · intro l hl
    simp only [bkL, List.mem_map, List.mem_range] at hl
    obtain ⟨i, _, rfl⟩ := hl
    exact plain_nl (bkN_plain h i)
theorem mem_bkL {T : List W} {l : W} : l ∈ bkL T ↔ ∃ i, i ≤ T.length ∧ l = bkN T i := by
  simp only [bkL, List.mem_map, List.mem_range]
  constructor
  · rintro ⟨i, hi, rfl⟩; exact ⟨i, by omega, rfl⟩
  · rintro ⟨i, hi, rfl⟩; exact ⟨i, by omega, rfl⟩

/-- A book as it was written is read. -/
theorem read_bk {T : List W} (h : Texts T) : readB (wrB T) = (T, [], 0) := by
  have h1 : ∀ l ∈ bkL T, rd l = none ∨ ∃ i, i ≤ T.length ∧ Near T i l := by
    intro l hl
    obtain ⟨i, hi, rfl⟩ := mem_bkL.1 hl
    exact .inr ⟨i, hi, near_self T i⟩
  have hb := of_near h h1 ⟨_, mem_bkL.2 ⟨T.length, Nat.le_refl _, rfl⟩, near_self T T.length⟩
  unfold readB
  rw [bk_cut h]
  simp only
  rw [read_book hb, if_pos]
  · have : (List.range T.length).filter (fun i => !rightB (bkL T) T i) = [] := by
      rw [List.filter_eq_nil_iff]
      intro i hi
      rw [List.mem_range] at hi
      rw [(right_near h h1 hi).2 (mem_bkL.2 ⟨i, by omega, rfl⟩)]
      simp
    rw [this]
    rfl
  · rw [List.all_eq_true]
    intro i hi
    rw [List.mem_range] at hi
    exact (found_near h h1 hi).2 ⟨_, mem_bkL.2 ⟨i, by omega, rfl⟩, near_self T i⟩
theorem bad_all {ls : List W} (h : ∀ l ∈ ls, rd l ≠ none) : (pgTo ls ls.length).bad = [] := by
  rw [(pg_all ls).bad, List.map_eq_nil_iff, List.filter_eq_nil_iff]
  intro i hi
  rw [List.mem_range] at hi
  have := h ls[i] (List.getElem_mem hi)
  cases hx : rd ls[i] with
  | none => exact absurd hx this
  | some x => simp [hi, hx]
theorem lost_bk {T : List W} (h : Texts T) {ls : List W} (h1 : ∀ l ∈ ls, rd l = none ∨ ∃ i, i ≤ T.length ∧ Near T i l) (h2 : ∃ l ∈ ls, Near T T.length l) : lostR (pgTo ls ls.length) = (((List.range T.length).filter fun i => !foundB ls T i).map fun i : Nat => (i : Int), 0) := by
  have hb := of_near h h1 h2
  have inv := pg_all ls
  unfold lostR
  rw [book_ends inv hb]
  simp only [maxL, List.foldl_nil]
  rw [book_lost inv hb]

def exA : W := [48, 48, 97, 98, 54, 54, 50, 50, 10, 48, 49, 99, 48, 51, 53, 55, 10, 46, 46, 48, 50, 54, 50, 54, 53, 10]
def exB : W := [48, 48, 97, 66, 54, 54, 50, 50, 10, 48, 49, 99, 48, 51, 53, 54, 10, 46, 46, 48, 50, 54, 50, 54, 53, 10]
def exC : W := [48, 48, 65, 66, 54, 54, 50, 50, 10, 48, 49, 99, 48, 51, 53, 55, 10, 46, 46, 48, 50, 54, 50, 54, 53, 10]
def exD : W := exA ++ [48, 49, 100, 48, 52, 54, 48, 10]
theorem ex_write : writeB [[97, 98], [99]] = (exA, 0) := by decide +kernel
theorem ex_readB : readB exB = ([[97, 98], [99]], [0, 1], 0) := by decide +kernel
theorem ex_readD : readB exD = ([], [], 141) := by decide +kernel
theorem ex_cutC : ∃ ls, cutL exC = some ls ∧ (pgTo ls ls.length).bad = [0] := by
  refine ⟨(lns exC).1, by decide +kernel, by decide +kernel⟩
end Go.Bk
