/- The laws BooksClash, BooksOrder, BooksCopies. -/
import Derived.Test.YtjjfnbadmpffpaaDoorLeft
set_option linter.all false

set_option maxRecDepth 8000
namespace Go.Bk
open Go Go.Ev Go.Proofs Go.RowKit

theorem rd_row {n : Nat} {t : W} (hn : n < 40) (ht : tx t = true) : rd (lineOf (rowS n t false)) = some ((n : Int), t, false) := by
  obtain ⟨h1, h2⟩ := row_text hn ht
  have := (rd_near h1 (lineOf_len _) (by rw [diff_self]; omega)).1
  rw [this, h2]
theorem rd_bkN {T : List W} (hT : Texts T) (i : Nat) : rd (bkN T i) = some (bkP T i) := (near_rd hT (near_self T i)).1

/-- A book with a line of another text. -/
theorem clash_book {T : List W} (hT : Texts T) {n : Nat} {o : W} (hn : n < T.length) (ho : tx o = true) (hne : T[n] ≠ o) :
    cutL (wrB T ++ (lineOf (rowS n o false) ++ [10])) = some (bkL T ++ [lineOf (rowS n o false)]) ∧ readB (wrB T ++ (lineOf (rowS n o false) ++ [10])) = ([], [], 141) ∧ lostB (wrB T ++ (lineOf (rowS n o false) ++ [10])) = ([], 0) := by
  have hlen := hT.len
  have hc : cutL (wrB T ++ (lineOf (rowS n o false) ++ [10])) = some (bkL T ++ [lineOf (rowS n o false)]) := by
    have e : wrB T ++ (lineOf (rowS n o false) ++ [10]) = jn (bkL T ++ [lineOf (rowS n o false)]) := by rw [jn_app, wrB_jn]; simp [jn]
    rw [e]
    refine cut_jn _ (by simp) ?_
    intro l hl
    rcases List.mem_append.1 hl with hl | hl
    · obtain ⟨i, _, rfl⟩ := mem_bkL.1 hl
      exact plain_nl (bkN_plain hT i)
    · simp at hl
      subst hl
      exact plain_nl (lineOf_plain (rowS_plain (by omega) ho).1)
  have hrow := rd_row (n := n) (by omega) ho
  have inv := pg_all (bkL T ++ [lineOf (rowS n o false)])
  have hcl : clashP (pgTo (bkL T ++ [lineOf (rowS n o false)]) (bkL T ++ [lineOf (rowS n o false)]).length) = true := by
    generalize pgTo (bkL T ++ [lineOf (rowS n o false)]) (bkL T ++ [lineOf (rowS n o false)]).length = p at *
    have h1 : T[n] ∈ (afind (n : Int) p.rows).getD [] := (inv.rows _ _).2 ⟨bkN T n, by simp; exact .inl (mem_bkL.2 ⟨n, by omega, rfl⟩), by rw [rd_bkN hT]; simp [bkP, hn]⟩
    have h2 : o ∈ (afind (n : Int) p.rows).getD [] := (inv.rows _ _).2 ⟨_, by simp, hrow⟩
    cases hf : afind (n : Int) p.rows with
    | none => rw [hf] at h1; cases h1
    | some ts =>
      rw [hf] at h1 h2
      have hm := mem_afind hf
      have := len_two h1 h2 hne
      have : p.rows.any (badRow p.ends) = true := by
        rw [List.any_eq_true]
        exact ⟨_, hm, by simp [badRow]; left; simpa using this⟩
      simp [clashP, this]
  refine ⟨hc, ?_, ?_⟩
  · unfold readB
    rw [hc]
    simp only [readP, hcl, if_true]
  · unfold lostB
    rw [hc]
    simp only
    generalize pgTo (bkL T ++ [lineOf (rowS n o false)]) (bkL T ++ [lineOf (rowS n o false)]).length = p at *
    have he : p.ends = [(T.length : Int)] := by
      refine one_of inv.endsN fun e => ?_
      rw [inv.ends]
      constructor
      · rintro ⟨l, hl, t, ht⟩
        rcases List.mem_append.1 hl with hl | hl
        · obtain ⟨i, _, rfl⟩ := mem_bkL.1 hl
          rw [rd_bkN hT] at ht
          unfold bkP at ht
          split at ht
          · simp at ht
          · injection ht with ht; injection ht with ht _; exact ht.symm
        · simp at hl; subst hl; rw [hrow] at ht; simp at ht
      · rintro rfl
        exact ⟨bkN T T.length, by simp; exact .inl (mem_bkL.2 ⟨_, Nat.le_refl _, rfl⟩), [], by rw [rd_bkN hT]; simp [bkP]⟩
    unfold lostR
    rw [he]
    simp only [maxL, List.foldl_nil]
    have : lostP p (T.length : Nat) = [] := by
      unfold lostP
      rw [Int.toNat_natCast, List.map_eq_nil_iff, List.filter_eq_nil_iff]
      intro i hi
      rw [List.mem_range] at hi
      have : T[i] ∈ (afind (i : Int) p.rows).getD [] := (inv.rows _ _).2 ⟨bkN T i, by simp; exact .inl (mem_bkL.2 ⟨i, by omega, rfl⟩), by rw [rd_bkN hT]; simp [bkP, hi]⟩
      cases hx : (afind (i : Int) p.rows).getD [] with
      | nil => rw [hx] at this; cases this
      | cons a r => simp
    rw [this]

/-- A book's lines in another order, and a strange one. -/
def orF (T : List W) (b i : Nat) : W := bkN T ((i + b) % (T.length + 1))
def orL (T : List W) (b : Nat) (st : W) : Nat → List W
  | 0 => []
  | i + 1 => orL T b st i ++ [orF T b i] ++ if i = (T.length + 1) / 2 then [st] else []
theorem orL_lo (T : List W) (b : Nat) (st : W) : ∀ i, i ≤ (T.length + 1) / 2 → orL T b st i = (List.range i).map (orF T b)
  | 0, _ => rfl
  | i + 1, h => by
    simp only [orL, orL_lo T b st i (by omega), List.range_succ, List.map_append, List.map_cons, List.map_nil]
    rw [if_neg (by omega)]
    simp
theorem orL_hi (T : List W) (b : Nat) (st : W) : ∀ i, (T.length + 1) / 2 < i → ∃ Q, orL T b st i = (List.range ((T.length + 1) / 2 + 1)).map (orF T b) ++ st :: Q ∧ (∀ q ∈ Q, ∃ j, q = orF T b j) ∧ ∀ a, (T.length + 1) / 2 < a → a < i → orF T b a ∈ Q
  | 0, h => by omega
  | i + 1, h => by
    by_cases hi : i = (T.length + 1) / 2
    · refine ⟨[], ?_, by simp, fun a h1 h2 => by omega⟩
      simp only [orL]
      rw [orL_lo T b st i (by omega), if_pos hi, ← hi, List.range_succ, List.map_append]
      simp
    · obtain ⟨Q, h1, h2, h3⟩ := orL_hi T b st i (by omega)
      refine ⟨Q ++ [orF T b i], ?_, ?_, ?_⟩
      · simp only [orL, h1, if_neg hi]
        simp
      · intro q hq
        rcases List.mem_append.1 hq with hq | hq
        · exact h2 q hq
        · simp at hq; exact ⟨i, hq⟩
      · intro a ha hai
        by_cases e : a = i
        · subst e; simp
        · exact List.mem_append_left _ (h3 a ha (by omega))
def twL (T : List W) (u : List Int) : List W := u.filterMap fun x => if 0 ≤ x ∧ x < (T.length : Int) + 1 then some (bkN T x.toNat) else none
theorem twL_take (T : List W) (u : List Int) (i : Nat) (h : i < u.length) : twL T (u.take (i + 1)) = twL T (u.take i) ++ if 0 ≤ u[i] ∧ u[i] < (T.length : Int) + 1 then [bkN T (u[i]).toNat] else [] := by
  rw [List.take_succ_eq_append_getElem h]
  simp only [twL, List.filterMap_append]
  congr 1
  by_cases hc : 0 ≤ u[i] ∧ u[i] < (T.length : Int) + 1
  · simp only [List.filterMap_cons, if_pos hc, List.filterMap_nil]
  · simp only [List.filterMap_cons, if_neg hc, List.filterMap_nil]
theorem twL_mem {T : List W} {u : List Int} {l : W} (h : l ∈ twL T u) : ∃ j, j ≤ T.length ∧ l = bkN T j := by
  simp only [twL, List.mem_filterMap] at h
  obtain ⟨x, _, hx⟩ := h
  split at hx
  · injection hx with hx
    exact ⟨x.toNat, by omega, hx.symm⟩
  · cases hx

theorem range_one {m k : Nat} {p : Nat → Bool} (hk : k < m) (hp : p k = true) (h : ∀ j, j < m → j ≠ k → p j = false) : (List.range m).filter p = [k] := by
  refine one_of (List.Pairwise.filter _ List.nodup_range) fun x => ?_
  rw [List.mem_filter, List.mem_range]
  constructor
  · rintro ⟨h1, h2⟩
    by_cases e : x = k
    · exact e
    · rw [h x h1 e] at h2; cases h2
  · rintro rfl
    exact ⟨hk, hp⟩

theorem order_book {T : List W} (hT : Texts T) {b : Nat} {st : W} {u : List Int} (hst : rowOf st = none) (hnl : (10 : UInt8) ∉ st) :
    ∃ ls, orL T b st (T.length + 1) ++ twL T u = ls ∧ cutL (jn ls) = some ls ∧ readB (jn ls) = (T, [], 0) ∧ (pgTo ls ls.length).bad = [(((T.length + 1) / 2 + 1 : Nat) : Int)] := by
  obtain ⟨Q, h1, h2, h3⟩ := orL_hi T b st (T.length + 1) (by omega)
  refine ⟨_, rfl, ?_⟩
  rw [h1]
  have hrs : rd st = none := by simp [rd, hst]
  generalize hP : (List.range ((T.length + 1) / 2 + 1)).map (orF T b) = P
  have hPl : P.length = (T.length + 1) / 2 + 1 := by rw [← hP]; simp
  have hF : ∀ j, ∃ k, k ≤ T.length ∧ orF T b j = bkN T k := fun j => ⟨(j + b) % (T.length + 1), by have := Nat.mod_lt (j + b) (show 0 < T.length + 1 by omega); omega, rfl⟩
  have hPm : ∀ l ∈ P, ∃ k, k ≤ T.length ∧ l = bkN T k := by
    intro l hl
    rw [← hP] at hl
    simp only [List.mem_map] at hl
    obtain ⟨j, _, rfl⟩ := hl
    exact hF j
  have hQm : ∀ l ∈ Q, ∃ k, k ≤ T.length ∧ l = bkN T k := by
    intro l hl
    obtain ⟨j, rfl⟩ := h2 l hl
    exact hF j
  have hX : ∀ l ∈ Q ++ twL T u, ∃ k, k ≤ T.length ∧ l = bkN T k := by
    intro l hl
    rcases List.mem_append.1 hl with hl | hl
    · exact hQm l hl
    · exact twL_mem hl
  have hin : ∀ i, i ≤ T.length → bkN T i ∈ P ++ Q := by
    intro i hi
    -- the place from which the line comes
    have hb := Nat.mod_lt b (show 0 < T.length + 1 by omega)
    generalize hm : T.length + 1 = m at *
    have hsur : ∃ j, j < m ∧ (j + b) % m = i := by
      refine ⟨(i + (m - b % m)) % m, Nat.mod_lt _ (by omega), ?_⟩
      rw [Nat.mod_add_mod, Nat.add_assoc]
      have e : m - b % m + b = m * (1 + b / m) := by
        have := Nat.div_add_mod b m
        rw [Nat.mul_add]
        omega
      rw [e, Nat.add_mul_mod_self_left, Nat.mod_eq_of_lt (by omega)]
    obtain ⟨j, hj, hji⟩ := hsur
    have e : orF T b j = bkN T i := by unfold orF; rw [hm, hji]
    rw [← e]
    by_cases hjh : j ≤ m / 2
    · apply List.mem_append_left
      rw [← hP]
      exact List.mem_map_of_mem (List.mem_range.2 (by omega))
    · exact List.mem_append_right _ (h3 j (by omega) hj)
  have els : P ++ st :: Q ++ twL T u = P ++ st :: (Q ++ twL T u) := by simp
  rw [els]
  generalize hXX : Q ++ twL T u = X at *
  have hin' : ∀ i, i ≤ T.length → bkN T i ∈ P ++ st :: X := by
    intro i hi
    have := hin i hi
    rw [← hXX]
    simp only [List.mem_append, List.mem_cons] at this ⊢
    rcases this with h | h
    · exact .inl h
    · exact .inr (.inr (.inl h))
  have hall : ∀ l ∈ P ++ st :: X, rd l = none ∨ ∃ i, i ≤ T.length ∧ Near T i l := by
    intro l hl
    simp only [List.mem_append, List.mem_cons] at hl
    rcases hl with hl | rfl | hl
    · obtain ⟨k, hk, rfl⟩ := hPm l hl; exact .inr ⟨k, hk, near_self T k⟩
    · exact .inl hrs
    · obtain ⟨k, hk, rfl⟩ := hX l hl; exact .inr ⟨k, hk, near_self T k⟩
  have hbk := of_near hT hall ⟨_, hin' _ (Nat.le_refl _), near_self T T.length⟩
  have hcut : cutL (jn (P ++ st :: X)) = some (P ++ st :: X) := by
    refine cut_jn _ (by simp) ?_
    intro l hl
    simp only [List.mem_append, List.mem_cons] at hl
    rcases hl with hl | rfl | hl
    · obtain ⟨k, hk, rfl⟩ := hPm l hl; exact plain_nl (bkN_plain hT k)
    · exact hnl
    · obtain ⟨k, hk, rfl⟩ := hX l hl; exact plain_nl (bkN_plain hT k)
  refine ⟨hcut, ?_, ?_⟩
  · unfold readB
    rw [hcut]
    simp only
    rw [read_book hbk, if_pos]
    · have : (List.range T.length).filter (fun i => !rightB (P ++ st :: X) T i) = [] := by
        rw [List.filter_eq_nil_iff]
        intro i hi
        rw [List.mem_range] at hi
        rw [(right_near hT hall hi).2 (hin' i (by omega))]
        simp
      rw [this]
      rfl
    · rw [List.all_eq_true]
      intro i hi
      rw [List.mem_range] at hi
      exact (found_near hT hall hi).2 ⟨_, hin' i (by omega), near_self T i⟩
  · rw [(pg_all _).bad]
    have : (List.range (P ++ st :: X).length).filter (fun j : Nat => (rd ((P ++ st :: X).getD j [])).isNone) = [(T.length + 1) / 2 + 1] := by
      refine range_one (by simp [hPl]) ?_ ?_
      · rw [List.getD_eq_getElem?_getD, List.getElem?_append_right (by omega), hPl]
        simp [hrs]
      · intro j hj hjk
        rw [List.getD_eq_getElem?_getD]
        by_cases hlt : j < P.length
        · rw [List.getElem?_append_left hlt, List.getElem?_eq_getElem hlt]
          obtain ⟨k, _, hk⟩ := hPm P[j] (List.getElem_mem hlt)
          simp only [Option.getD_some, hk, rd_bkN hT, Option.isNone_some]
        · rw [List.getElem?_append_right (by omega)]
          obtain ⟨q, hq⟩ : ∃ q, j - P.length = q + 1 := ⟨j - P.length - 1, by omega⟩
          rw [hq, List.getElem?_cons_succ]
          have hqx : q < X.length := by simp at hj; omega
          rw [List.getElem?_eq_getElem hqx]
          obtain ⟨k, _, hk⟩ := hX X[q] (List.getElem_mem hqx)
          simp only [Option.getD_some, hk, rd_bkN hT, Option.isNone_some]
    rw [this]
    rfl

/-- Two copies. -/
theorem two_book {T : List W} (hT : Texts T) {s t : Hs} {n m : Nat} (h1 : Left T s n) (h2 : Left T t m) (hno : ∀ i, i ≤ T.length → s.2.2.getD i 0 = 0 ∨ t.2.2.getD i 0 = 0) (z1 : leftL s ≠ []) (z2 : leftL t ≠ []) :
    (joinB (jn (leftL s)) (jn (leftL t))) = (T, 0) := by
  have c1 := left_cut hT h1 z1
  have c2 := left_cut hT h2 z2
  have hall : ∀ l ∈ leftL s ++ leftL t, rd l = none ∨ ∃ i, i ≤ T.length ∧ Near T i l := by
    intro l hl
    rcases List.mem_append.1 hl with hl | hl
    · exact left_each h1 l hl
    · exact left_each h2 l hl
  have hin : ∀ i, i ≤ T.length → ∃ l ∈ leftL s ++ leftL t, Near T i l := by
    intro i hi
    rcases hno i hi with h | h
    · have := (left_mem h1 hi).2 (.inl h)
      exact ⟨_, List.mem_append_left _ this.1, this.2⟩
    · have := (left_mem h2 hi).2 (.inl h)
      exact ⟨_, List.mem_append_right _ this.1, this.2⟩
  have hbk := of_near hT hall (hin _ (Nat.le_refl _))
  have hcut : cutL (jn (leftL s) ++ jn (leftL t)) = some (leftL s ++ leftL t) := by
    rw [← jn_app]
    refine cut_jn _ (by simp [z1]) ?_
    intro l hl
    rcases List.mem_append.1 hl with hl | hl
    · exact left_nl hT h1 l hl
    · exact left_nl hT h2 l hl
  unfold joinB
  rw [c1, c2]
  simp only [Option.isSome_some, Bool.and_self, if_true]
  unfold readB
  rw [hcut]
  simp only
  rw [read_book hbk, if_pos]
  rw [List.all_eq_true]
  intro i hi
  rw [List.mem_range] at hi
  exact (found_near hT hall hi).2 (hin i (by omega))

theorem lost_one (all : List W) (hs : List Hm) : ∀ i, i ≤ hs.length → ∀ j : Nat, (hTo all hs i).2.2.getD j 0 ≤ 1
  | 0, _ => by
    intro j
    have := (inv_h0 all).b j
    have e : (hTo all hs 0) = (all, List.replicate all.length 0, List.replicate all.length 0) := rfl
    rw [e]
    omega
  | i + 1, h => by
    have hi : i < hs.length := h
    have ih := lost_one all hs i (by omega)
    have inv := inv_hTo all hs i (by omega)
    rw [hTo_succ all hs i hi]
    generalize hTo all hs i = s at *
    generalize hs[i] = x at *
    intro j
    unfold hStep
    split
    · exact ih j
    · rename_i hsk
      have hsk' : hSkip s x = false := by simpa using hsk
      simp only [hSkip, Bool.or_eq_false_iff, decide_eq_false_iff_not] at hsk'
      obtain ⟨⟨k1, k2⟩, k3⟩ := hsk'
      have hil3 : x.1.toNat < s.2.2.length := by rw [inv.l3, ← inv.l1]; omega
      split
      · simp only [getD_set j _ _ hil3]
        split
        · omega
        · exact ih j
      · split <;> exact ih j
def sumL (s : Hs) : Nat → Int
  | 0 => 0
  | i + 1 => sumL s i + (1 - s.2.2.getD i 0)
theorem sumL_pos {s : Hs} (h : ∀ j : Nat, s.2.2.getD j 0 ≤ 1) : ∀ i, 0 ≤ sumL s i ∧ (sumL s i ≠ 0 → ∃ k, k < i ∧ s.2.2.getD k 0 < 1)
  | 0 => by simp [sumL]
  | i + 1 => by
    have ih := sumL_pos h i
    have := h i
    simp only [sumL]
    refine ⟨by omega, fun hne => ?_⟩
    by_cases h1 : s.2.2.getD i 0 < 1
    · exact ⟨i, by omega, h1⟩
    · obtain ⟨k, hk, hk2⟩ := ih.2 (by omega)
      exact ⟨k, by omega, hk2⟩
theorem sumL_le (s : Hs) {n : Nat} {all : List W} (inv : HInv all s n) : ∀ i, sumL s i ≤ i
  | 0 => by simp [sumL]
  | i + 1 => by
    have ih := sumL_le s inv i
    have := inv.b i
    simp only [sumL]
    omega
theorem left_some {T : List W} {s : Hs} {n : Nat} (h : Left T s n) (h1 : ∀ j : Nat, s.2.2.getD j 0 ≤ 1) (hs : sumL s (T.length + 1) ≠ 0) : leftL s ≠ [] := by
  obtain ⟨k, hk, hk2⟩ := (sumL_pos h1 _).2 hs
  have := h.inv.b k
  have := (left_mem h (show k ≤ T.length by omega)).2 (.inl (by omega))
  intro e
  rw [e] at this
  exact absurd this.1 (by simp)
end Go.Bk

/- The contracts of BooksClash, BooksOrder, BooksCopies. -/
set_option maxRecDepth 8000
namespace Go.Bk
open Go Go.Ev Go.Proofs Go.RowKit

theorem orL_len {T : List W} (hT : Texts T) (b : Nat) {st : W} (hst : st.length ≤ 200) : ∀ i, (jn (orL T b st i)).length ≤ 67 * i + if (T.length + 1) / 2 < i then 201 else 0
  | 0 => by simp [orL, jn]
  | i + 1 => by
    have ih := orL_len hT b hst i
    have hnl := bkN_len hT ((i + b) % (T.length + 1))
    have e : (jn [orF T b i]).length = (bkN T ((i + b) % (T.length + 1))).length + 1 := by simp [jn, orF]
    simp only [orL, jn_app, List.length_append, e]
    split at ih
    · rw [if_neg (by omega), if_pos (by omega)]
      simp only [jn, List.length_nil]
      omega
    · by_cases h : i = (T.length + 1) / 2
      · rw [if_pos h, if_pos (by omega)]
        simp only [jn, List.length_append, List.length_cons, List.length_nil]
        omega
      · rw [if_neg h, if_neg (by omega)]
        simp only [jn, List.length_nil]
        omega
theorem twL_len {T : List W} (hT : Texts T) (u : List Int) : ∀ i, i ≤ u.length → (jn (twL T (u.take i))).length ≤ 67 * i
  | 0, _ => by simp [twL, jn]
  | i + 1, h => by
    have ih := twL_len hT u i (by omega)
    have hi : i < u.length := h
    rw [twL_take T u i hi, jn_app, List.length_append]
    split
    · have hnl := bkN_len hT (u[i]).toNat
      simp only [jn, List.length_append, List.length_cons, List.length_nil]
      omega
    · simp only [jn, List.length_nil]
      omega

section
variable {K : World → Prop} (hK : ∀ w w', K w → Below w.heap.size w w' → K w')
include hK
variable (hS : ∀ s : W, s.length ≤ 1000000 → Ev.Good Tryd.prog K 68 [.str s, .str [10]] (strs (spl s)))
include hS

theorem law9 (T : List W) (n : Int) (o : W) (h : ∀ s ∈ T, s.length ≤ 1000000000000000) (ho : o.length ≤ 1000000000000000) : Ev.Good Tryd.prog K 9 [strs T, .int .i64 n, .str o] (.bool true) := by
  refine good_of_wp hK c9_ok (by simp) ?_
  have g17 := good17 hK T h
  have g17o := good17 hK [o] (by simp [ho])
  have g13 := good13 hK hS
  simp at g17 g17o ⊢
  refine callK_of g17 (by simp) ?_
  by_cases hcan : (!large T && decide (errT T = 0)) = true
  · have hT : Texts T := by
      simp only [Bool.and_eq_true, decide_eq_true_eq] at hcan
      exact texts_err.1 hcan.2
    rw [hcan]
    have hlen := hT.len
    by_cases hn0 : n < 0
    · simp [hn0]
      refine callK_of g13 (by simp) ?_
      simp
    · obtain ⟨k, rfl⟩ : ∃ k : Nat, n = k := ⟨n.toNat, by omega⟩
      by_cases hn1 : T.length ≤ k
      · have hi : (T.length : Int) ≤ (k : Int) := by omega
        simp [hi]
        intros
        refine callK_of g13 (by simp) ?_
        simp
      · have hi : ¬ (T.length : Int) ≤ (k : Int) := by omega
        have hk : k < T.length := by omega
        by_cases heq : T[k] = o
        · simp [hi, hk, heq]
          intros
          refine callK_of g13 (by simp) ?_
          simp
        · by_cases hcano : (!large [o] && decide (errT [o] = 0)) = true
          · have hTo : Texts [o] := by
              simp only [Bool.and_eq_true, decide_eq_true_eq] at hcano
              exact texts_err.1 hcano.2
            have hto := hTo.tx o (by simp)
            obtain ⟨q1, q2, q3⟩ := clash_book hT hk hto heq
            have hwl := wrB_len hT.tx hT.len
            have hp := rowS_plain (c := false) (n := k) (by omega) hto
            have hll := lineOf_len (rowS k o false)
            have hol := tx_len hto
            have g14 := good14 hK T (texts_len hT)
            have e14 : writeB T = (wrB T, 0) := by simp [writeB, texts_err.2 hT]
            rw [e14] at g14
            have g12 := good12 hK [wrB T] (by simp; omega)
            have e12 : large [wrB T] = false := by simp [large, total]; omega
            rw [e12] at g12
            have g30 := good30 hK k o (by omega) (by omega)
            have g29 := good29 hK (rowS k o false) hp.1 (by omega)
            generalize hB : wrB T ++ (lineOf (rowS k o false) ++ [10]) = B at *
            have hBl : B.length ≤ 3000 := by rw [← hB]; simp; omega
            have g19 := good19 hK hS B (by omega) (cut_bound _ (by omega))
            have g28 := good28 hK hS B (by omega) (cut_bound _ (by omega))
            rw [q2] at g19
            rw [q3] at g28
            have g31 := good31 hK [] (k : Int)
            rw [hcano] at g17o
            simp at g14 g12 g19 g28 g31
            simp [hi, hk, heq]
            intros
            refine callK_of g17o (by simp) ?_
            simp
            refine callK_of g14 (by simp) ?_
            simp
            refine callK_of g12 (by simp) ?_
            simp
            refine callK_of g30 (by simp) ?_
            simp
            refine callK_of g29 (by simp) ?_
            simp [hB]
            refine ⟨by omega, by omega, callK_of g19 (by simp) ?_⟩
            simp
            refine callK_of g28 (by simp) ?_
            simp
            refine callK_of g31 (by simp) ?_
            simp
            refine callK_of g13 (by simp) ?_
            simp
          · have hcano' : (!large [o] && decide (errT [o] = 0)) = false := by simpa using hcano
            rw [hcano'] at g17o
            simp [hi, hk, heq]
            intros
            refine callK_of g17o (by simp) ?_
            simp
            refine callK_of g13 (by simp) ?_
            simp
  · have hcan' : (!large T && decide (errT T = 0)) = false := by simpa using hcan
    rw [hcan']
    simp
    refine callK_of g13 (by simp) ?_
    simp

theorem law5 (T : List W) (b : Int) (u : List Int) (st : W) (h : ∀ s ∈ T, s.length ≤ 1000000000000000) (hst : st.length ≤ 1000000000000000) : Ev.Good Tryd.prog K 5 [strs T, .agg [.int .i64 b, ints u, .str st]] (.bool true) := by
  refine good_of_wp hK c5_ok (by simp) ?_
  have g17 := good17 hK T h
  have g13 := good13 hK hS
  simp at g17 ⊢
  refine callK_of g17 (by simp) ?_
  by_cases hcan : (!large T && decide (errT T = 0)) = true
  · have hT : Texts T := by
      simp only [Bool.and_eq_true, decide_eq_true_eq] at hcan
      exact texts_err.1 hcan.2
    rw [hcan]
    have hlen := hT.len
    by_cases c1 : b < 0
    · simp [c1]
      intros
      refine callK_of g13 (by simp) ?_
      simp
    · by_cases c2 : 1000 < b
      · simp [c1, c2]
        intros
        refine callK_of g13 (by simp) ?_
        simp
      · by_cases c3 : 40 < u.length
        · have c3' : (40 : Int) < (u.length : Int) := by omega
          simp [c1, c2, c3']
          intros
          refine callK_of g13 (by simp) ?_
          simp
        · have c3' : ¬ (40 : Int) < (u.length : Int) := by omega
          by_cases c4 : 200 < st.length
          · have c4' : (200 : Int) < (st.length : Int) := by omega
            simp [c1, c2, c3', c4']
            intros
            refine callK_of g13 (by simp) ?_
            simp
          · have c4' : ¬ (200 : Int) < (st.length : Int) := by omega
            obtain ⟨b, rfl⟩ : ∃ k : Nat, b = k := ⟨b.toNat, by omega⟩
            simp [c1, c2, c3', c4']
            intros
            refine loop_q (fun i => [(0, AV.iv (strs T)), (3, .iv (.ptr [.int .i64 (b : Nat), ints u, .str st])), (5, .iv (.int .i64 (i : Nat)))]) (fun _ => []) st.length (fun i => (10 : UInt8) ∉ st.take i) (by simp) ?_ ?_
            · intro hq
              rw [LoopAt_enter c5_b0.eq_1]
              rw [List.take_length] at hq
              have g23 := good23 hK st (by omega)
              cases hr : rowOf st with
              | some r =>
                rw [hr] at g23
                simp at g23 ⊢
                refine callK_of g23 (by simp) ?_
                simp
                refine callK_of g13 (by simp) ?_
                simp
              | none =>
                rw [hr] at g23
                obtain ⟨ls, e1, e2, e3, e4⟩ := order_book hT (b := b) (u := u) hr hq
                have hwl := wrB_len hT.tx hT.len
                have g14 := good14 hK T (texts_len hT)
                have e14 : writeB T = (wrB T, 0) := by simp [writeB, texts_err.2 hT]
                rw [e14] at g14
                have g12 := good12 hK [wrB T] (by simp; omega)
                have e12 : large [wrB T] = false := by simp [large, total]; omega
                rw [e12] at g12
                have g24 := good24 hK (wrB T) (by omega)
                rw [bk_cut hT] at g24
                have hbl := bkL_len T
                simp at g23 g14 g12 g24 ⊢
                refine callK_of g23 (by simp) ?_
                simp
                refine callK_of g14 (by simp) ?_
                simp
                refine callK_of g24 (by simp) ?_
                simp [hbl]
                intros
                refine ⟨by omega, callK_of g12 (by simp) ?_⟩
                have hdiv : ((T.length : Int) + 1).tdiv 2 = (((T.length + 1) / 2 : Nat) : Int) := by rw [Int.tdiv_eq_ediv_of_nonneg (by omega)]; omega
                simp
                refine loop_up (fun i => [(0, AV.iv (strs T)), (3, .iv (.ptr [.int .i64 (b : Nat), ints u, .str st])), (10, .iv (strs (bkL T))), (12, .iv (.str (jn (orL T b st i)))), (13, .iv (.int .i64 (i : Nat)))]) (fun _ => []) (T.length + 1) ?_ ?_
                · rw [LoopAt_enter c5_b1.eq_1]
                  have hol := orL_len hT b (st := st) (by omega) (T.length + 1)
                  rw [if_pos (by omega)] at hol
                  simp [hbl]
                  intros
                  have e0 : jn (orL T b st (T.length + 1)) = jn (orL T b st (T.length + 1) ++ twL T (u.take 0)) := by simp [twL]
                  rw [e0]
                  refine loop_up (fun i => [(0, AV.iv (strs T)), (3, .iv (.ptr [.int .i64 (b : Nat), ints u, .str st])), (10, .iv (strs (bkL T))), (12, .iv (.str (jn (orL T b st (T.length + 1) ++ twL T (u.take i))))), (14, .iv (.int .i64 (i : Nat)))]) (fun _ => []) u.length ?_ ?_
                  · rw [LoopAt_enter c5_b2.eq_1]
                    have htl := twL_len hT u u.length (Nat.le_refl _)
                    rw [List.take_length] at htl
                    have hjl : (jn ls).length ≤ 9000 := by rw [← e1, jn_app, List.length_append]; omega
                    have g19 := good19 hK hS (jn ls) (by omega) (cut_bound _ hjl)
                    have g21 := good21 hK hS (jn ls) (by omega) (cut_bound _ hjl)
                    rw [e3] at g19
                    rw [e2] at g21
                    simp only [e4] at g21
                    have g16 := good16 hK T T
                    have g22 := good22 hK [(((T.length + 1) / 2 + 1 : Nat) : Int)] [(((T.length + 1) / 2 + 1 : Nat) : Int)]
                    rw [List.take_length, e1]
                    generalize hq2 : (T.length + 1) / 2 = hf at *
                    simp at g19 g21 g16 g22
                    simp [hbl]
                    refine fun _ => callK_of g19 (by simp) ?_
                    simp
                    refine callK_of g21 (by simp) ?_
                    simp
                    refine callK_of g16 (by simp) ?_
                    simp [hbl, hdiv]
                    intros
                    refine ⟨by omega, by omega, ?_⟩
                    refine callK_of g22 (by simp) ?_
                    simp
                    refine callK_of g13 (by simp) ?_
                    simp
                  · intro i hi ih
                    rw [LoopAt_enter c5_b2.eq_1]
                    rw [twL_take T u i hi] at ih
                    have htl := twL_len hT u i (by omega)
                    have hjl : (jn (orL T b st (T.length + 1) ++ twL T (u.take i))).length ≤ 9000 := by rw [jn_app, List.length_append]; omega
                    by_cases hc : 0 ≤ u[i] ∧ u[i] < (T.length : Int) + 1
                    · rw [if_pos hc] at ih
                      obtain ⟨k, hk⟩ : ∃ k : Nat, u[i] = k := ⟨(u[i]).toNat, by omega⟩
                      have hkl : k < (bkL T).length := by rw [hbl]; omega
                      have hkb : (bkL T)[k] = bkN T k := by
                        have := bkL_get T k (by omega)
                        rw [List.getElem?_eq_getElem hkl] at this
                        injection this
                      have hnl := bkN_len hT k
                      rw [hk] at hc ih
                      have hc2 : (k : Int) < (T.length : Int) + 1 := hc.2
                      rw [← List.append_assoc, jn_app] at ih
                      generalize jn (orL T b st (T.length + 1) ++ twL T (u.take i)) = J at *
                      simp [jn] at ih
                      simp [hi, hbl, hk, hc2, hkb, show k < T.length + 1 by omega]
                      exact fun _ _ => ⟨by omega, by omega, by omega, ih⟩
                    · rw [if_neg hc, List.append_nil] at ih
                      generalize jn (orL T b st (T.length + 1) ++ twL T (u.take i)) = J at *
                      simp at ih
                      by_cases hu0 : u[i] < 0
                      · have hu0' : ¬ 0 ≤ u[i] := by omega
                        simp [hi, hbl, hu0, hu0']
                        repeat' (first | omega | assumption | intro _ | apply And.intro)
                      · have hu0' : 0 ≤ u[i] := by omega
                        have hu1 : ¬ u[i] < (T.length : Int) + 1 := fun e => hc ⟨hu0', e⟩
                        simp [hi, hbl, hu0', hu1]
                        repeat' (first | omega | assumption | intro _ | apply And.intro)
                · intro i hi ih
                  rw [LoopAt_enter c5_b1.eq_1]
                  have hol := orL_len hT b (st := st) (by omega) i
                  have hol2 : (jn (orL T b st i)).length ≤ 9000 := by split at hol <;> omega
                  have hmod : ((i : Int) + (b : Int)).tmod ((T.length : Int) + 1) = (((i + b) % (T.length + 1) : Nat) : Int) := by rw [Int.natCast_emod]; push_cast; exact Int.tmod_eq_emod_of_nonneg (by omega)
                  have hml : (i + b) % (T.length + 1) < T.length + 1 := Nat.mod_lt _ (by omega)
                  have hii : (i : Int) < (T.length : Int) + 1 := by omega
                  have hr : orL T b st (i + 1) = orL T b st i ++ [orF T b i] ++ if i = (T.length + 1) / 2 then [st] else [] := rfl
                  rw [hr] at ih
                  unfold orF at ih
                  generalize hm : (i + b) % (T.length + 1) = m at *
                  have hkl : m < (bkL T).length := by rw [hbl]; omega
                  have hkb : (bkL T)[m] = bkN T m := by
                    have := bkL_get T m (by omega)
                    rw [List.getElem?_eq_getElem hkl] at this
                    injection this
                  have hnl := bkN_len hT m
                  generalize orL T b st i = O at *
                  generalize hq2 : (T.length + 1) / 2 = hf at *
                  by_cases hih : i = hf
                  · rw [if_pos hih] at ih
                    subst hih
                    simp [jn_app, jn] at ih
                    simp [hii, hbl, hmod, hkb, hml, hdiv]
                    exact fun _ => ⟨by omega, fun _ => ⟨by omega, by omega, by omega, fun _ => ⟨by omega, by omega, by omega, by omega, ih⟩⟩⟩
                  · rw [if_neg hih] at ih
                    have hih' : ¬ (i : Int) = (hf : Int) := by omega
                    simp [jn_app, jn] at ih
                    simp [hii, hbl, hmod, hkb, hml, hdiv, hih']
                    exact fun _ => ⟨by omega, fun _ => ⟨by omega, by omega, by omega, fun _ => ⟨by omega, by omega, ih⟩⟩⟩
            · intro i hi hq ih
              rw [LoopAt_enter c5_b0.eq_1]
              by_cases h10 : st[i] = 10
              · simp [hi, h10]
                refine callK_of g13 (by simp) ?_
                simp
              · have ih := ih (by
                  rw [List.take_succ_eq_append_getElem hi]
                  simp only [List.mem_append, List.mem_singleton, not_or]
                  exact ⟨hq, Ne.symm h10⟩)
                have h10' : ¬ (st[i].toNat : Int) = 10 := fun e => h10 (UInt8.toNat_inj.1 (by simp; omega))
                simp at ih
                simp [hi, h10']
                exact ⟨by omega, ih⟩
  · have hcan' : (!large T && decide (errT T = 0)) = false := by simpa using hcan
    rw [hcan']
    simp
    refine callK_of g13 (by simp) ?_
    simp

theorem law7 (T : List W) (hs : List Hm) (gs : List Hm) (tu : Bool) (h : ∀ s ∈ T, s.length ≤ 1000000000000000) : Ev.Good Tryd.prog K 7 [strs T, .agg [harms hs, harms gs, .bool tu]] (.bool true) := by
  refine good_of_wp hK c7_ok (by simp) ?_
  have g17 := good17 hK T h
  have g13 := good13 hK hS
  simp at g17 ⊢
  refine callK_of g17 (by simp) ?_
  by_cases hcan : (!large T && decide (errT T = 0)) = true
  · have hT : Texts T := by
      simp only [Bool.and_eq_true, decide_eq_true_eq] at hcan
      exact texts_err.1 hcan.2
    have hwl := wrB_len hT.tx hT.len
    have g14 := good14 hK T (texts_len hT)
    have e14 : writeB T = (wrB T, 0) := by simp [writeB, texts_err.2 hT]
    rw [e14] at g14
    have g12 := good12 hK [wrB T] (by simp; omega)
    have e12 : large [wrB T] = false := by simp [large, total]; omega
    rw [e12] at g12
    have g18 := good18 hK (wrB T) hs (by omega)
    have g18' := good18 hK (wrB T) gs (by omega)
    unfold hmR at g18 g18'
    rw [bk_cut hT] at g18 g18'
    simp only at g18 g18'
    rw [hcan]
    have hlen := hT.len
    simp at g14 g12 ⊢
    refine callK_of g14 (by simp) ?_
    simp
    refine callK_of g12 (by simp) ?_
    simp
    by_cases h200 : 200 < hs.length
    · rw [if_pos h200] at g18
      have hi : (200 : Int) < (hs.length : Int) := by omega
      obtain ⟨G, hG⟩ : ∃ G : List W × List Int × List Int × Bool, Ev.Good Tryd.prog K 18 [.str (wrB T), harms gs] (.tup [strs G.1, ints G.2.1, ints G.2.2.1, .bool G.2.2.2]) := by
        by_cases h200' : 200 < gs.length
        · rw [if_pos h200'] at g18'; exact ⟨([], [], [], false), g18'⟩
        · rw [if_neg h200'] at g18'; exact ⟨(_, _, _, true), g18'⟩
      obtain ⟨G1, G2, G3, G4⟩ := G
      simp at g18 hG ⊢
      refine callK_of g18 (by simp) ?_
      simp
      refine callK_of hG (by simp) ?_
      simp [hi]
      intros
      refine callK_of g13 (by simp) ?_
      simp
    · rw [if_neg h200] at g18
      have inv := inv_hTo (bkL T) hs hs.length (Nat.le_refl _)
      have one := lost_one (bkL T) hs hs.length (Nat.le_refl _)
      have hi : ¬ (200 : Int) < (hs.length : Int) := by omega
      by_cases h200' : 200 < gs.length
      · rw [if_pos h200'] at g18'
        have hi' : (200 : Int) < (gs.length : Int) := by omega
        simp at g18 g18' ⊢
        refine callK_of g18 (by simp) ?_
        simp
        refine callK_of g18' (by simp) ?_
        simp [hi, hi']
        intros
        refine callK_of g13 (by simp) ?_
        simp
      · rw [if_neg h200'] at g18'
        have inv' := inv_hTo (bkL T) gs gs.length (Nat.le_refl _)
        have one' := lost_one (bkL T) gs gs.length (Nat.le_refl _)
        generalize hTo (bkL T) hs hs.length = s at *
        generalize hTo (bkL T) gs gs.length = t at *
        generalize hs.length = n at *
        generalize gs.length = m at *
        have l1 := inv.l1
        have l2 := inv.l2
        have l3 := inv.l3
        have k1 := inv'.l1
        have k2 := inv'.l2
        have k3 := inv'.l3
        rw [bkL_len] at l1 l2 l3 k1 k2 k3
        simp at g18 g18' ⊢
        refine callK_of g18 (by simp) ?_
        simp
        refine callK_of g18' (by simp) ?_
        simp [l1, k1]
        refine fun _ _ => ⟨by omega, fun _ => ?_⟩
        refine loop_q (fun i => [(0, AV.iv (strs T)), (3, .iv (.ptr [harms hs, harms gs, .bool tu])), (7, .iv (strs s.1)), (8, .iv (ints s.2.1)), (9, .iv (ints s.2.2)), (11, .iv (strs t.1)), (12, .iv (ints t.2.1)), (13, .iv (ints t.2.2)), (15, .iv (.int .i64 (sumL s i))), (16, .iv (.int .i64 (sumL t i))), (17, .iv (.int .i64 (i : Nat)))])
          (fun _ => []) (T.length + 1) (fun i => ∀ k, k < i → s.2.1.getD k 0 ≤ 1 ∧ t.2.1.getD k 0 ≤ 1 ∧ (s.2.2.getD k 0 = 0 ∨ t.2.2.getD k 0 = 0)) (by simp) ?_ ?_
        · intro hq
          rw [LoopAt_enter c7_b0.eq_1]
          have hL : Left T s n := ⟨inv, fun i hi => (hq i (by omega)).1⟩
          have hR : Left T t m := ⟨inv', fun i hi => (hq i (by omega)).2.1⟩
          have hno : ∀ i, i ≤ T.length → s.2.2.getD i 0 = 0 ∨ t.2.2.getD i 0 = 0 := fun i hi => (hq i (by omega)).2.2
          by_cases z1 : sumL s (T.length + 1) = 0
          · simp [l1, z1]
            intros
            refine callK_of g13 (by simp) ?_
            simp
          · by_cases z2 : sumL t (T.length + 1) = 0
            · simp [l1, z1, z2]
              intros
              refine callK_of g13 (by simp) ?_
              simp
            · have hjl := left_jn hL
              have hjr := left_jn hR
              have g20 := good20 hK s.1 s.2.2 (by omega) (by have := left_total hL; omega)
              have g20' := good20 hK t.1 t.2.2 (by omega) (by have := left_total hR; omega)
              have e20 : jnL s.1 s.2.2 s.1.length = leftL s := rfl
              have e20' : jnL t.1 t.2.2 t.1.length = leftL t := rfl
              rw [e20] at g20
              rw [e20'] at g20'
              have b1 := two_book hT hL hR hno (left_some hL one z1) (left_some hR one' z2)
              have b2 := two_book hT hR hL (fun i hi => (hno i hi).symm) (left_some hR one' z2) (left_some hL one z1)
              have g26 := good26 hK hS (jn (leftL s)) (jn (leftL t)) (by omega) (cut_bound _ (by simp; omega))
              have g26' := good26 hK hS (jn (leftL t)) (jn (leftL s)) (by omega) (cut_bound _ (by simp; omega))
              rw [b1] at g26
              rw [b2] at g26'
              have g16 := good16 hK T T
              generalize jn (leftL s) = J at *
              generalize jn (leftL t) = J' at *
              simp at g20 g20' g26 g26' g16
              simp [l1, z1, z2]
              refine fun _ => callK_of g20 (by simp) ?_
              simp
              refine callK_of g20' (by simp) ?_
              cases tu with
              | true =>
                simp
                refine callK_of g26' (by simp) ?_
                simp
                refine callK_of g16 (by simp) ?_
                simp
                refine callK_of g13 (by simp) ?_
                simp
              | false =>
                simp
                refine callK_of g26 (by simp) ?_
                simp
                refine callK_of g16 (by simp) ?_
                simp
                refine callK_of g13 (by simp) ?_
                simp
        · intro i hi hq ih
          rw [LoopAt_enter c7_b0.eq_1]
          have hi2 : i < s.2.1.length := by omega
          have hi3 : i < s.2.2.length := by omega
          have hj2 : i < t.2.1.length := by omega
          have hj3 : i < t.2.2.length := by omega
          have hii : (i : Int) < (T.length : Int) + 1 := by omega
          have hb := inv.b i
          have hb' := inv'.b i
          have e1 : s.2.1.getD i 0 = s.2.1[i] := by simp [hi2]
          have e2 : s.2.2.getD i 0 = s.2.2[i] := by simp [hi3]
          have f1 : t.2.1.getD i 0 = t.2.1[i] := by simp [hj2]
          have f2 : t.2.2.getD i 0 = t.2.2[i] := by simp [hj3]
          have s1 := (sumL_pos one i).1
          have s2 := sumL_le s inv i
          have t1 := (sumL_pos one' i).1
          have t2 := sumL_le t inv' i
          have o1 := one i
          have o2 := one' i
          have x1 : sumL s (i + 1) = sumL s i + (1 - s.2.2.getD i 0) := rfl
          have x2 : sumL t (i + 1) = sumL t i + (1 - t.2.2.getD i 0) := rfl
          rw [x1, x2, e2, f2] at ih
          rw [e1, e2] at hb
          rw [f1, f2] at hb'
          rw [e2] at o1
          rw [f2] at o2
          generalize sumL s i = A at *
          generalize sumL t i = B at *
          generalize hmo : s.2.1[i] = mo at *
          generalize hlo : s.2.2[i] = lo at *
          generalize hmo' : t.2.1[i] = mo' at *
          generalize hlo' : t.2.2[i] = lo' at *
          by_cases c1 : 1 < mo
          · simp [l1, hii, hi2, hmo, c1]
            intros
            refine callK_of g13 (by simp) ?_
            simp
          · by_cases c2 : 1 < mo'
            · simp [l1, hii, hi2, hj2, hmo, hmo', c1, c2]
              intros
              refine callK_of g13 (by simp) ?_
              simp
            · by_cases c3 : 0 < lo
              · by_cases c4 : 0 < lo'
                · simp [l1, hii, hi2, hj2, hi3, hj3, hmo, hmo', hlo, hlo', c1, c2, c3, c4]
                  intros
                  refine callK_of g13 (by simp) ?_
                  simp
                · have ih := ih (fun k hk => by
                    rcases Nat.lt_succ_iff_lt_or_eq.1 hk with h | h
                    · exact hq k h
                    · subst h; rw [e1, e2, f1, f2]; omega)
                  simp at ih
                  simp [l1, hii, hi2, hj2, hi3, hj3, hmo, hmo', hlo, hlo', c1, c2, c3, c4]
                  repeat' (first | omega | exact ih | intro _ | apply And.intro)
              · have ih := ih (fun k hk => by
                  rcases Nat.lt_succ_iff_lt_or_eq.1 hk with h | h
                  · exact hq k h
                  · subst h; rw [e1, e2, f1, f2]; omega)
                simp at ih
                simp [l1, hii, hi2, hj2, hi3, hj3, hmo, hmo', hlo, hlo', c1, c2, c3]
                repeat' (first | omega | exact ih | intro _ | apply And.intro)
  · have hcan' : (!large T && decide (errT T = 0)) = false := by simpa using hcan
    rw [hcan']
    simp
    refine callK_of g13 (by simp) ?_
    simp
end
end Go.Bk
