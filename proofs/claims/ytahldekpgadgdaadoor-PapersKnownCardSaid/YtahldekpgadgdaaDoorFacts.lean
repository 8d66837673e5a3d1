/- Plain facts of readings: how they are written, and that they differ. -/
import Derived.Test.YtahldekpgadgdaaDoorRead
set_option linter.all false

namespace Go.Pp
open Go Go.Ev Go.Proofs Go.RowKit

theorem ofNat_fact {n m : Nat} (hn : n < 6) (hm : m < 6) (h : UInt8.ofNat (97 + n) = UInt8.ofNat (97 + m)) : n = m := by
  have := congrArg UInt8.toNat h
  simp at this
  omega
theorem fact_ne {n c : Nat} (hn : n < 6) (hc : c < 97 ∨ 102 < c) (hc' : c < 256) : UInt8.ofNat (97 + n) ≠ UInt8.ofNat c := by
  intro h
  have := congrArg UInt8.toNat h
  simp at this
  omega
theorem text_head (r : Rd) (h : fok r) : ∃ c t, text r = c :: t ∧ (c = 40 ∨ ∃ n, n < 6 ∧ c = UInt8.ofNat (97 + n)) := by
  cases r with
  | fact n => exact ⟨_, [], rfl, .inr ⟨n, h, rfl⟩⟩
  | no r => exact ⟨40, _, rfl, .inl rfl⟩
  | bin o a b => exact ⟨40, _, by simp [text]; rfl, .inl rfl⟩
theorem word_inj {o o' : Op} {x x' : W} (h : o.word ++ 32 :: x = o'.word ++ 32 :: x') : o = o' ∧ x = x' := by
  cases o <;> cases o' <;> simp [Op.word] at h <;> first | exact ⟨rfl, h⟩ | skip
theorem n_ne (r : Rd) (h : fok r) (x y : W) : text r ++ x ≠ 110 :: y := by
  obtain ⟨c, t, h1, h2⟩ := text_head r h
  rw [h1]
  intro e
  simp at e
  rcases h2 with h2 | ⟨n, hn, h2⟩
  · rw [h2] at e; exact absurd e.1 (by decide)
  · rw [h2] at e; exact fact_ne (c := 110) hn (.inr (by omega)) (by omega) e.1

theorem text_inj : ∀ (r r' : Rd) (t t' : W), fok r → fok r' → text r ++ t = text r' ++ t' → r = r' ∧ t = t'
  | .fact n, .fact m, t, t', h, h', e => by
    simp only [text, List.cons_append, List.nil_append, List.cons.injEq] at e
    exact ⟨by rw [ofNat_fact h h' e.1], e.2⟩
  | .fact n, .no r', t, t', h, h', e => by
    simp only [text, List.cons_append, List.nil_append, List.cons.injEq] at e
    exact absurd e.1 (fact_ne (c := 40) h (.inl (by omega)) (by omega))
  | .fact n, .bin o a b, t, t', h, h', e => by
    simp only [text, List.cons_append, List.nil_append, List.cons.injEq] at e
    exact absurd e.1 (fact_ne (c := 40) h (.inl (by omega)) (by omega))
  | .no r, .fact n, t, t', h, h', e => by
    simp only [text, List.cons_append, List.nil_append, List.cons.injEq] at e
    exact absurd e.1.symm (fact_ne (c := 40) h' (.inl (by omega)) (by omega))
  | .bin o a b, .fact n, t, t', h, h', e => by
    simp only [text, List.cons_append, List.nil_append, List.cons.injEq] at e
    exact absurd e.1.symm (fact_ne (c := 40) h' (.inl (by omega)) (by omega))
  | .no r, .no r', t, t', h, h', e => by
    simp [text] at e
    obtain ⟨h1, h2⟩ := text_inj r r' _ _ h h' e
    simp at h2
    exact ⟨by rw [h1], h2⟩
  | .no r, .bin o a b, t, t', h, h', e => by
    simp [text] at e
    exact absurd e.symm (n_ne a h'.1 _ _)
  | .bin o a b, .no r, t, t', h, h', e => by
    simp [text] at e
    exact absurd e (n_ne a h.1 _ _)
  | .bin o a b, .bin o' a' b', t, t', h, h', e => by
    simp [text] at e
    obtain ⟨h1, h2⟩ := text_inj a a' _ _ h.1 h'.1 e
    simp at h2
    obtain ⟨h3, h4⟩ := word_inj h2
    obtain ⟨h5, h6⟩ := text_inj b b' _ _ h.2 h'.2 h4
    simp at h6
    exact ⟨by rw [h1, h3, h5], h6⟩

theorem text_eq {r r' : Rd} (h : fok r) (h' : fok r') (e : text r = text r') : r = r' :=
  (text_inj r r' [] [] h h' (by rw [e])).1

theorem pairs_mem {o : Op} {A B : List Rd} {x : Rd} (h : x ∈ pairsOf o A B) : ∃ a ∈ A, ∃ b ∈ B, x = .bin o a b := by
  unfold pairsOf at h
  rw [List.mem_flatMap] at h
  obtain ⟨a, ha, h⟩ := h
  rw [List.mem_map] at h
  obtain ⟨b, hb, rfl⟩ := h
  exact ⟨a, ha, b, hb, rfl⟩

theorem pairs_nodup (o : Op) {A B : List Rd} (hA : A.Nodup) (hB : B.Nodup) : (pairsOf o A B).Nodup := by
  unfold pairsOf List.Nodup
  rw [List.pairwise_flatMap]
  refine ⟨fun a _ => ?_, ?_⟩
  · rw [List.pairwise_map]
    exact hB.imp fun h e => h (by injection e)
  · refine hA.imp fun h x hx y hy e => ?_
    rw [List.mem_map] at hx hy
    obtain ⟨b, _, rfl⟩ := hx
    obtain ⟨c, _, rfl⟩ := hy
    injection e with _ e2 _
    exact h e2

theorem rdStep_mem {f : List W → List Rd} {ws : List W} {i : Nat} {x : Rd} (h : x ∈ rdStep f ws i) : 0 < i ∧ ∃ o a b, opOf (ws.getD i []) = some o ∧ a ∈ f (ws.take i) ∧ b ∈ f (ws.drop (i + 1)) ∧ x = .bin o a b := by
  unfold rdStep at h
  split at h
  · simp at h
  · rename_i hi
    split at h
    · simp at h
    · rename_i o ho
      obtain ⟨a, ha, b, hb, rfl⟩ := pairs_mem h
      exact ⟨by omega, o, a, b, ho, ha, hb, rfl⟩

theorem rdg_nodup (n : Nat) : ∀ (k : Nat) (ws : List W), (rdg n k ws).Nodup
  | 0, ws => by simp [rdg]
  | k + 1, ws => by
    simp only [rdg]
    split
    · simp
    · unfold rdPre
      rw [List.nodup_append]
      refine ⟨?_, ?_, ?_⟩
      · unfold rdNot
        split
        · unfold List.Nodup
          rw [List.pairwise_map]
          exact (rdg_nodup n k _).imp fun h e => h (by injection e)
        · simp
      · unfold List.Nodup
        rw [List.pairwise_flatMap]
        refine ⟨fun i _ => ?_, ?_⟩
        · unfold rdStep
          split
          · exact .nil
          · split
            · exact .nil
            · exact pairs_nodup _ (rdg_nodup n k _) (rdg_nodup n k _)
        · have := List.pairwise_lt_range (n := ws.length)
          refine (List.Pairwise.imp_of_mem (fun {i j} hi hj h => ?_) this)
          intro x hx y hy e
          simp at hi hj
          obtain ⟨_, o, a, b, _, ha, _, rfl⟩ := rdStep_mem hx
          obtain ⟨_, o', a', b', _, ha', _, rfl⟩ := rdStep_mem hy
          injection e with _ e2 _
          subst e2
          have h1 := rdg_words n k _ _ ha
          have h2 := rdg_words n k _ _ ha'
          rw [h1] at h2
          have := congrArg List.length h2
          simp at this
          omega
      · intro x hx y hy e
        subst e
        unfold rdNot at hx
        split at hx
        · rw [List.mem_map] at hx
          obtain ⟨a, _, rfl⟩ := hx
          rw [List.mem_flatMap] at hy
          obtain ⟨i, _, hy⟩ := hy
          obtain ⟨_, o, a, b, _, _, _, h⟩ := rdStep_mem hy
          cases h
        · simp at hx

theorem rdg_fuel (n : Nat) : ∀ (k k' : Nat) (ws : List W), ws.length ≤ k → ws.length ≤ k' → rdg n k ws = rdg n k' ws
  | 0, 0, ws, _, _ => rfl
  | 0, k' + 1, ws, h, _ => by
    have : ws = [] := List.eq_nil_of_length_eq_zero (by omega)
    subst this
    simp [rdg, factOf, rdPre, rdNot]
  | k + 1, 0, ws, _, h => by
    have : ws = [] := List.eq_nil_of_length_eq_zero (by omega)
    subst this
    simp [rdg, factOf, rdPre, rdNot]
  | k + 1, k' + 1, ws, h, h' => by
    simp only [rdg]
    split
    · rfl
    · unfold rdPre rdNot
      congr 1
      · split
        · rw [rdg_fuel n k k' _ (by simp; omega) (by simp; omega)]
        · rfl
      · have : ∀ i ∈ List.range ws.length, rdStep (rdg n k) ws i = rdStep (rdg n k') ws i := by
          intro i hi
          simp at hi
          unfold rdStep
          split
          · rfl
          · split
            · rfl
            · rw [rdg_fuel n k k' (ws.take i) (by simp; omega) (by simp; omega), rdg_fuel n k k' (ws.drop (i + 1)) (by simp; omega) (by simp; omega)]
        rw [List.flatMap_def, List.flatMap_def, List.map_congr_left this]

theorem wordsOf_ne (r : Rd) : wordsOf r ≠ [] := by cases r <;> simp [wordsOf]
theorem join_app (a : List W) (ha : a ≠ []) (w : W) (b : List W) (hb : b ≠ []) : join (a ++ w :: b) = join a ++ 32 :: (w ++ 32 :: join b) := by
  induction a with
  | nil => exact absurd rfl ha
  | cons x a ih =>
    by_cases h : a = []
    · subst h
      rw [List.cons_append, join_cons _ _ (by simp), List.nil_append, join_cons _ _ hb]
      simp [join]
    · rw [List.cons_append, join_cons _ _ (by simp), ih h, join_cons _ _ h]
      simp
def bareB (c : UInt8) : Bool := c != 40 && c != 41
theorem bare_text : ∀ (r : Rd), fok r → (text r).filter (fun c => c != 40 && c != 41) = join (wordsOf r)
  | .fact n, h => by
    have h1 := fact_ne (c := 40) h (.inl (by omega)) (by omega)
    have h2 := fact_ne (c := 41) h (.inl (by omega)) (by omega)
    have h1' : UInt8.ofNat (97 + n) ≠ 40 := h1
    have h2' : UInt8.ofNat (97 + n) ≠ 41 := h2
    simp only [text, wordsOf, join, List.filter_cons, List.filter_nil]
    rw [if_pos]
    simp only [bne_iff_ne, Bool.and_eq_true]
    exact ⟨h1', h2'⟩
  | .no r, h => by
    have ih := bare_text r h
    simp only [text, wordsOf, List.filter_append]
    rw [ih, join_cons _ _ (wordsOf_ne r)]
    simp [wNot]
  | .bin o a b, h => by
    have ia := bare_text a h.1
    have ib := bare_text b h.2
    simp only [text, wordsOf, List.filter_append]
    rw [ia, ib, join_app _ (wordsOf_ne a) _ _ (wordsOf_ne b)]
    cases o <;> simp [Op.word]
end Go.Pp
