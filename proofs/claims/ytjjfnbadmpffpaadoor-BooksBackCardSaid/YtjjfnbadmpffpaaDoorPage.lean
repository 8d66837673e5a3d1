/- The contract of what can be read of a string. -/
import Derived.Test.YtjjfnbadmpffpaaDoorLines
set_option linter.all false

set_option maxRecDepth 8000
namespace Go.Bk
open Go Go.Ev Go.Proofs Go.RowKit

section
variable {P : Program} {K : World → Prop}
theorem callR_emb {C : Env → Objs → Prop} {d : Option Nat} {g : FuncId} {id mv n : Nat} {t : TypeId} {sz : Nat} {l : List AOper} {e : Env} {o : Objs} {ys : List IV} {rows rows' : List (List IV)} (hn : n = rows.length) (hg : GoodR P K g t sz rows ys rows')
    (h : runOps P K C l (bnd d (.aref id rows'.length) e) (setOL id (.arr t sz (emb rows') rows'.length) o)) : callRK P K C d g id l e o (some ys) (.aref id n) (some (.arr t sz (emb rows) mv)) := by
  subst hn
  exact callR_arr hg h
theorem callR_mapE {C : Env → Objs → Prop} {d : Option Nat} {g : FuncId} {id : Nat} {t : TypeId} {sz : Nat} {l : List AOper} {e : Env} {o : Objs} {ys : List IV} {kvs : List (MK × List (List IV))} {k : MK} {n : Nat} {rows rows' : List (List IV)} (hr : (mfind k kvs).getD [] = rows) (hn : rows.length = n) (hg : GoodR P K g t sz rows ys rows')
    (h : runOps P K C l (bnd d (.mref id k rows'.length) e) (setOL id (.mapr t sz (mins k rows' kvs) (some k)) o)) : callRK P K C d g id l e o (some ys) (.mref id k n) (some (.mapr t sz kvs none)) := by
  subst hr
  exact callR_map hn hg h
end

theorem fits_row {l r : W} (h : fits l r = true) : isRow r = true ∧ l.length = r.length + 4 := by
  simp only [fits, Bool.and_eq_true, decide_eq_true_eq] at h
  exact ⟨h.1.1, h.1.2⟩
theorem rowOf_spec {l r : W} (h : rowOf l = some r) : fits l r = true := by
  unfold rowOf at h
  split at h
  · cases h
  · simp only at h
    split at h
    · rename_i hf
      injection h with h
      rw [← h]
      exact hf
    · split at h
      · cases h
      · rw [Option.map_eq_some_iff] at h
        obtain ⟨i, h1, h2⟩ := h
        rw [← h2]
        have h3 := List.find?_some h1
        exact h3

def ains {β : Type} (k : Int) (v : β) : List (Int × β) → List (Int × β)
  | [] => [(k, v)]
  | p :: r => if p.1 = k then (k, v) :: r else p :: ains k v r
def afind {β : Type} (k : Int) : List (Int × β) → Option β
  | [] => none
  | p :: r => if p.1 = k then some p.2 else afind k r

def encK {β α : Type} (f : β → α) (l : List (Int × β)) : List (MK × α) := l.map fun p => (.int .i64 p.1, f p.2)
theorem encK_ins {β α : Type} (f : β → α) (k : Int) (v : β) : ∀ l : List (Int × β), mins (.int .i64 k) (f v) (encK f l) = encK f (ains k v l)
  | [] => rfl
  | p :: r => by
    have ih := encK_ins f k v r
    simp only [encK, List.map_cons, mins, ains] at ih ⊢
    by_cases h : p.1 = k
    · simp [h]
    · simp [h, ih]
theorem encK_find {β α : Type} (f : β → α) (k : Int) : ∀ l : List (Int × β), mfind (.int .i64 k) (encK f l) = (afind k l).map f
  | [] => rfl
  | p :: r => by
    have ih := encK_find f k r
    simp only [encK, List.map_cons, mfind, afind] at ih ⊢
    by_cases h : p.1 = k
    · simp [h]
    · simp [h, ih]
theorem encK_kinds {β α : Type} (f : β → α) : ∀ l : List (Int × β), kindsOk (some .i64) (encK f l)
  | [] => trivial
  | p :: r => ⟨rfl, encK_kinds f r⟩
theorem afind_ains {β : Type} (k j : Int) (v : β) : ∀ l : List (Int × β), afind j (ains k v l) = if j = k then some v else afind j l
  | [] => by
    simp only [ains, afind]
    by_cases h : j = k
    · simp [h]
    · simp [h, Ne.symm h]
  | p :: r => by
    have ih := afind_ains k j v r
    simp only [ains]
    by_cases h : p.1 = k
    · simp only [h, if_true, afind]
      by_cases hj : j = k
      · simp [hj]
      · simp [hj, Ne.symm hj]
    · simp only [h, if_false, afind, ih]
      by_cases hj : j = k
      · subst hj; simp [h]
      · simp [hj]

def txE (l : List W) : List (List IV) := l.map fun s => [.str s]
def inE (l : List Int) : List (List IV) := l.map fun n => [.int .i64 n]

/-- What can be read of a string. -/
structure Pg where
  rows : List (Int × List W)
  ends : List Int
  exact : List (Int × Int)
  bad : List Int

def stepP (p : Pg) (i : Nat) (l : W) : Pg :=
  match rowOf l with
  | none => { p with bad := p.bad ++ [(i : Int)] }
  | some r =>
    if (parseR r).1.2.2 then { p with ends := withX p.ends (parseR r).1.1 }
    else { p with rows := ains (parseR r).1.1 (withX ((afind (parseR r).1.1 p.rows).getD []) (parseR r).1.2.1) p.rows
                  exact := if lineOf r = l then ains (parseR r).1.1 ((afind (parseR r).1.1 p.exact).getD 0 + 1) p.exact else p.exact }
def pgTo (ls : List W) : Nat → Pg
  | 0 => ⟨[], [], [], []⟩
  | i + 1 => stepP (pgTo ls i) i (ls.getD i [])

theorem withX_len {α : Type} [BEq α] (l : List α) (x : α) : (withX l x).length ≤ l.length + 1 := by
  unfold withX
  split <;> simp
theorem pg_bounds (ls : List W) : ∀ i, (pgTo ls i).ends.length ≤ i ∧ (pgTo ls i).bad.length ≤ i ∧ (∀ k, ((afind k (pgTo ls i).rows).getD []).length ≤ i) ∧ (∀ k, 0 ≤ (afind k (pgTo ls i).exact).getD 0 ∧ (afind k (pgTo ls i).exact).getD 0 ≤ i)
  | 0 => by simp [pgTo, afind]
  | i + 1 => by
    obtain ⟨h1, h2, h3, h4⟩ := pg_bounds ls i
    simp only [pgTo, stepP]
    split
    · refine ⟨by simp only; omega, by simp; omega, fun k => ?_, fun k => ?_⟩
      · have := h3 k; simp only; omega
      · have := h4 k; simp only; omega
    · split
      · refine ⟨?_, by simp only; omega, fun k => ?_, fun k => ?_⟩
        · have := withX_len (pgTo ls i).ends (parseR ‹W›).1.1
          simp only; omega
        · have := h3 k; simp only; omega
        · have := h4 k; simp only; omega
      · refine ⟨by simp only; omega, by simp only; omega, fun k => ?_, fun k => ?_⟩
        · simp only [afind_ains]
          split
          · have := withX_len ((afind (parseR ‹W›).1.1 (pgTo ls i).rows).getD []) (parseR ‹W›).1.2.1
            have := h3 (parseR ‹W›).1.1
            simp only [Option.getD_some]; omega
          · have := h3 k; omega
        · simp only
          split
          · rw [afind_ains]
            split
            · have := h4 (parseR ‹W›).1.1
              simp only [Option.getD_some]; omega
            · have := h4 k; omega
          · have := h4 k; omega

def pgV (p : Pg) : IV := .agg [.map (encK (fun t => .sl 1 (txE t)) p.rows), ints p.ends, .map (encK (fun n => .int .i64 n) p.exact), ints p.bad]
def noPg : IV := .agg [.map [], .sl 1 [], .map [], .sl 1 []]

section
variable {K : World → Prop} (hK : ∀ w w', K w → Below w.heap.size w w' → K w')
include hK

theorem good44 (hS : ∀ s : W, s.length ≤ 1000000 → Ev.Good Tryd.prog K 68 [.str s, .str [10]] (strs (spl s))) (b : W) (hb : b.length ≤ 100000) (hl : ∀ ls, cutL b = some ls → ls.length ≤ 100000 ∧ ∀ l ∈ ls, l.length ≤ 10000) :
    Ev.Good Tryd.prog K 44 [.str b] (match cutL b with | some ls => .tup [pgV (pgTo ls ls.length), .int .i64 0] | none => .tup [noPg, .int .i64 140]) := by
  refine good_of_wp hK c44_ok (by simp) ?_
  have g50 := good50 hK hS b (by omega)
  generalize cutL b = R at *
  cases R with
  | none =>
    simp at g50 ⊢
    refine callK_of g50 (by simp) ?_
    simp [noPg]
  | some ls =>
    obtain ⟨hl1, hl2⟩ := hl ls rfl
    simp at g50 ⊢
    refine callK_of g50 (by simp) ?_
    simp
    intro hln
    have e0 : encK txE ([] : List (Int × List W)) = [] := rfl
    refine loop_up (fun i => [(2, AV.loc 2 0), (6, .loc 6 0), (22, .iv (strs ls)), (23, .iv (.int .i64 (ls.length : Nat))), (24, .iv (.int .i64 (i : Nat)))])
      (fun i => [(2, AO.box [.iv (.map []), .iv (.sl 1 []), .iv (.map []), .iv (.sl 1 [])]), (6, .box [.oref 19, .aref 7001 (pgTo ls i).ends.length, .oref 20, .aref 7003 (pgTo ls i).bad.length]), (19, .mapr 9 1 (encK txE (pgTo ls i).rows) none),
        (20, .mapd (encK (fun n => .int .i64 n) (pgTo ls i).exact)), (7001, .arr 3 1 (emb (inE (pgTo ls i).ends)) (pgTo ls i).ends.length), (7003, .arr 3 1 (emb (inE (pgTo ls i).bad)) 0)]) ls.length ?_ ?_
    · rw [LoopAt_enter c44_b0.eq_1]
      generalize pgTo ls ls.length = p
      have l1 : (inE p.ends).length = p.ends.length := by simp [inE]
      have l2 : (inE p.bad).length = p.bad.length := by simp [inE]
      simp [l1, l2]
      simp [pgV, encK, txE, inE]
    · intro i hi ih
      rw [LoopAt_enter c44_b0.eq_1]
      obtain ⟨b1, b2, b3, b4⟩ := pg_bounds ls i
      have hli := hl2 ls[i] (List.getElem_mem hi)
      have hg : ls.getD i [] = ls[i] := by simp [hi]
      simp only [pgTo, hg] at ih
      generalize pgTo ls i = p at *
      simp [hi]
      refine callK_of (good62 hK ls[i] hli) (by simp) ?_
      cases hR : rowOf ls[i] with
      | none =>
        have e : stepP p i ls[i] = { p with bad := p.bad ++ [(i : Int)] } := by simp [stepP, hR]
        rw [e] at ih
        have l2 : (inE p.bad).length = p.bad.length := by simp [inE]
        have l3 : inE (p.bad ++ [(i : Int)]) = inE p.bad ++ [[.int .i64 (i : Nat)]] := by simp [inE]
        rw [l3] at ih
        simp [l2] at ih ⊢
        exact ⟨by omega, by omega, ih⟩
      | some r =>
        have hst : standR ls[i] = (parseR r).1 := by unfold standR; rw [hR]
        have hrow : isRow r = true := (fits_row (rowOf_spec hR)).1
        cases hc : (parseR r).1.2.2 with
        | true =>
          have e : stepP p i ls[i] = { p with ends := withX p.ends (parseR r).1.1 } := by simp [stepP, hR, hc]
          rw [e] at ih
          simp [hst, hc] at ih ⊢
          refine callR_emb (rows := inE p.ends) (rows' := inE (withX p.ends (parseR r).1.1)) (by simp [inE]) (goodr63 hK p.ends (parseR r).1.1 (by omega)) ?_
          have l1 : (inE (withX p.ends (parseR r).1.1)).length = (withX p.ends (parseR r).1.1).length := by simp [inE]
          simp [l1]
          exact ⟨by omega, ih⟩
        | false =>
          have g41 := good41r hK r hrow
          simp [hc] at g41
          have hfk := encK_find txE (parseR r).1.1 p.rows
          have hle := b3 (parseR r).1.1
          have hks := encK_kinds txE p.rows
          generalize hold : (afind (parseR r).1.1 p.rows).getD [] = old at *
          have hfo : (mfind (.int .i64 (parseR r).1.1) (encK txE p.rows)).getD [] = txE old := by
            rw [hfk, ← hold]
            cases afind (parseR r).1.1 p.rows <;> rfl
          simp [hst, hc, hks, hfo]
          refine callR_mapE hfo rfl (goodr64 hK old (parseR r).1.2.1 (by omega)) ?_
          have hl2' : (List.map (fun n => [IV.str n]) (withX old (parseR r).1.2.1)) = txE (withX old (parseR r).1.2.1) := rfl
          rw [hl2', encK_ins]
          have hks2 := encK_kinds txE (ains (parseR r).1.1 (withX old (parseR r).1.2.1) p.rows)
          have hf2 := encK_find txE (parseR r).1.1 (ains (parseR r).1.1 (withX old (parseR r).1.2.1) p.rows)
          rw [afind_ains, if_pos rfl] at hf2
          simp [hks2, hf2]
          refine callK_of g41 (by simp) ?_
          have hks3 := encK_kinds (fun n => IV.int .i64 n) p.exact
          have hf3 := encK_find (fun n => IV.int .i64 n) (parseR r).1.1 p.exact
          obtain ⟨b5, b6⟩ := b4 (parseR r).1.1
          generalize hcnt : (afind (parseR r).1.1 p.exact).getD 0 = cnt at *
          have hf3' : (mfind (.int .i64 (parseR r).1.1) (encK (fun n => IV.int .i64 n) p.exact)).getD (.int .i64 0) = .int .i64 cnt := by
            rw [hf3, ← hcnt]
            cases afind (parseR r).1.1 p.exact <;> rfl
          have hins := encK_ins (fun n => IV.int .i64 n) (parseR r).1.1 (cnt + 1) p.exact
          by_cases he : lineOf r = ls[i]
          · have e : stepP p i ls[i] = { p with rows := ains (parseR r).1.1 (withX old (parseR r).1.2.1) p.rows, exact := ains (parseR r).1.1 (cnt + 1) p.exact } := by simp [stepP, hR, hc, he, hold, hcnt]
            rw [e] at ih
            simp [he, hks3, hf3', hins] at ih ⊢
            exact ⟨by omega, by omega, ih⟩
          · have e : stepP p i ls[i] = { p with rows := ains (parseR r).1.1 (withX old (parseR r).1.2.1) p.rows } := by simp [stepP, hR, hc, he, hold]
            rw [e] at ih
            simp [he] at ih ⊢
            exact ⟨by omega, ih⟩
end
end Go.Bk

/- The contracts of what is read: clashes, what is lost, Read, Bad, Lost, Join, Mend, Write. -/
set_option maxRecDepth 8000
namespace Go.Bk
open Go Go.Ev Go.Proofs Go.RowKit

def badRow (ends : List Int) (q : Int × List W) : Bool := decide (1 < q.2.length) || (match ends with | [] => false | e :: _ => decide (e ≤ q.1))
def clashP (p : Pg) : Bool := decide (1 < p.ends.length) || p.rows.any (badRow p.ends)
def lostP (p : Pg) (n : Int) : List Int := ((List.range n.toNat).filter fun k : Nat => ((afind (k : Int) p.rows).getD []).length == 0).map fun k : Nat => (k : Int)

theorem encK_get {β α : Type} (f : β → α) (l : List (Int × β)) (i : Nat) : (encK f l)[i]? = (l[i]?).map fun p => (.int .i64 p.1, f p.2) := by simp [encK]

theorem lostP_succ (p : Pg) (i : Nat) : lostP p ((i + 1 : Nat) : Int) = lostP p (i : Nat) ++ if ((afind (i : Int) p.rows).getD []).length = 0 then [(i : Int)] else [] := by
  simp only [lostP, Int.toNat_natCast, List.range_succ, List.filter_append, List.map_append]
  congr 1
  by_cases h : ((afind (i : Int) p.rows).getD []).length = 0 <;> simp [h]
theorem lostP_len (p : Pg) (n : Nat) : (lostP p (n : Nat)).length ≤ n := by
  simp only [lostP, List.length_map, Int.toNat_natCast]
  have := List.length_filter_le (fun k : Nat => ((afind (k : Int) p.rows).getD []).length == 0) (List.range n)
  simpa using this

section
variable {K : World → Prop} (hK : ∀ w w', K w → Below w.heap.size w w' → K w')
include hK

theorem good45 (p : Pg) : Ev.Good Tryd.prog K 45 [pgV p] (.bool (clashP p)) := by
  refine good_of_wp hK c45_ok (by simp) ?_
  by_cases h1 : 1 < p.ends.length
  · have hi : (1 : Int) < (p.ends.length : Int) := by omega
    simp [pgV, hi, clashP, h1]
  · have hi : ¬ (1 : Int) < (p.ends.length : Int) := by omega
    generalize hC : clashP p = C
    simp [pgV, hi]
    intro hl
    have key : ∀ seen : List Nat, (∀ i ∈ seen, ∀ q, p.rows[i]? = some q → badRow p.ends q = false) →
        LoopF Tryd.prog K (RetIs [ARes.tmp 2] (.bool C)) c45_b0 [1, 11] [11] [AI.inBlock 0, AI.code (.seq (.ops c45_r8 false) .ret)]
          [(1, .iv (.ptr [.map (encK (fun t => .sl 1 (txE t)) p.rows), ints p.ends, .map (encK (fun n => .int .i64 n) p.exact), ints p.bad])), (11, .oref 11)] [(11, .miter (encK (fun t => .sl 1 (txE t)) p.rows) seen)] := by
      refine loop_seen (fun _ => [(1, AV.iv (.ptr [.map (encK (fun t => .sl 1 (txE t)) p.rows), ints p.ends, .map (encK (fun n => .int .i64 n) p.exact), ints p.bad])), (11, .oref 11)]) (fun seen => [(11, AO.miter (encK (fun t => .sl 1 (txE t)) p.rows) seen)]) p.rows.length (fun seen => ∀ i ∈ seen, ∀ q, p.rows[i]? = some q → badRow p.ends q = false) ?_
      intro seen hI ih
      rw [LoopAt_enter c45_b0.eq_1]
      have hlen : (encK (fun t => IV.sl 1 (txE t)) p.rows).length = p.rows.length := by simp [encK]
      simp [hlen, encK_get]
      refine ⟨fun hall => ?_, fun i a b n ts hq ha hb hns => ?_⟩
      · have : p.rows.any (badRow p.ends) = false := by
          rw [List.any_eq_false]
          intro q hq
          obtain ⟨i, hi⟩ := List.getElem?_of_mem hq
          rw [hI i (hall i (List.getElem?_eq_some_iff.1 hi).1) q hi]
          simp
        rw [← hC]
        simp [clashP, h1, this]
      · subst ha hb
        have hil := (List.getElem?_eq_some_iff.1 hq).1
        have htl : (txE ts).length = ts.length := by simp [txE]
        have hmem : (n, ts) ∈ p.rows := List.mem_of_getElem? hq
        have hbad : badRow p.ends (n, ts) = true → C = true := by
          intro hb
          rw [← hC]
          simp only [clashP, Bool.or_eq_true, List.any_eq_true]
          exact .inr ⟨_, hmem, hb⟩
        have hgood : badRow p.ends (n, ts) = false → LoopF Tryd.prog K (RetIs [ARes.tmp 2] (.bool C)) c45_b0 [1, 11] [11] [AI.inBlock 0, AI.code (.seq (.ops c45_r8 false) .ret)]
          [(1, .iv (.ptr [.map (encK (fun t => .sl 1 (txE t)) p.rows), ints p.ends, .map (encK (fun n => .int .i64 n) p.exact), ints p.bad])), (11, .oref 11)] [(11, .miter (encK (fun t => .sl 1 (txE t)) p.rows) (i :: seen))] := by
          intro hg
          refine ih i hil hns fun j hj q hjq => ?_
          rcases List.mem_cons.1 hj with rfl | hj
          · rw [hq] at hjq
            injection hjq with hjq
            rw [← hjq]
            exact hg
          · exact hI j hj q hjq
        generalize hends : p.ends = ends at *
        simp [hq, htl]
        intro _
        match ends, h1 with
        | [], _ =>
          by_cases ht : 1 < ts.length
          · have hti : (1 : Int) < (ts.length : Int) := by omega
            have := hbad (by simp [badRow, ht])
            simp [hti, this]
            try (repeat' (first | omega | assumption | intro _ | apply And.intro))
          · have hti : ¬ (1 : Int) < (ts.length : Int) := by omega
            have := hgood (by simp [badRow, ht])
            simp [hti] at this ⊢
            repeat' (first | omega | assumption | intro _ | apply And.intro)
        | [e], _ =>
          by_cases ht : 1 < ts.length
          · have hti : (1 : Int) < (ts.length : Int) := by omega
            have := hbad (by simp [badRow, ht])
            simp [hti, this]
            try (repeat' (first | omega | assumption | intro _ | apply And.intro))
          · have hti : ¬ (1 : Int) < (ts.length : Int) := by omega
            by_cases hen : e ≤ n
            · have := hbad (by simp [badRow, hen])
              simp [hti, hen, this]
              try (repeat' (first | omega | assumption | intro _ | apply And.intro))
            · have := hgood (by simp [badRow, ht, hen])
              simp [hti, hen] at this ⊢
              repeat' (first | omega | assumption | intro _ | apply And.intro)
        | _ :: _ :: _, h => simp at h
    have := key [] (by simp)
    simp at this ⊢
    exact this

theorem good46 (p : Pg) (n : Nat) (hn : n ≤ 100000) : Ev.Good Tryd.prog K 46 [pgV p, .int .i64 (n : Nat)] (ints (lostP p (n : Nat))) := by
  refine good_of_wp hK c46_ok (by simp) ?_
  simp [pgV]
  refine loop_up (fun i => [(2, AV.iv (.ptr [.map (encK (fun t => .sl 1 (txE t)) p.rows), ints p.ends, .map (encK (fun n => .int .i64 n) p.exact), ints p.bad])), (5, .aref 5 (lostP p (i : Nat)).length), (7, .iv (.int .i64 (n : Nat))), (8, .iv (.int .i64 (i : Nat)))])
    (fun i => [(5, AO.arr 3 1 (emb (inE (lostP p (i : Nat)))) 0)]) n ?_ ?_
  · rw [LoopAt_enter c46_b0.eq_1]
    have l : (inE (lostP p (n : Nat))).length = (lostP p (n : Nat)).length := by simp [inE]
    simp [l]
    simp [inE]
  · intro i hi ih
    rw [LoopAt_enter c46_b0.eq_1]
    have hs := lostP_succ p i
    have hl := lostP_len p i
    have l : (inE (lostP p (i : Nat))).length = (lostP p (i : Nat)).length := by simp [inE]
    rw [hs] at ih
    have hks := encK_kinds (fun t => IV.sl 1 (txE t)) p.rows
    have hf := encK_find (fun t => IV.sl 1 (txE t)) (i : Int) p.rows
    generalize hold : (afind (i : Int) p.rows).getD [] = old at *
    have hf' : (mfind (.int .i64 (i : Int)) (encK (fun t => IV.sl 1 (txE t)) p.rows)).getD (.sl 1 []) = .sl 1 (txE old) := by
      rw [hf, ← hold]
      cases afind (i : Int) p.rows <;> rfl
    generalize lostP p (i : Nat) = L at *
    have htl : (txE old).length = old.length := by simp [txE]
    have hin : (i : Int) < (n : Int) := by omega
    by_cases h0 : old.length = 0
    · have l3 : inE (L ++ [(i : Int)]) = inE L ++ [[.int .i64 (i : Nat)]] := by simp [inE]
      rw [if_pos h0, l3] at ih
      have he := List.eq_nil_of_length_eq_zero h0
      have ht0 : txE old = [] := by rw [he]; rfl
      simp [hin, hks, hf', ht0, l] at ih ⊢
      repeat' (first | omega | assumption | intro _ | apply And.intro)
    · have hne : old ≠ [] := fun e => h0 (by rw [e]; rfl)
      rw [if_neg h0] at ih
      simp [hin, hks, hf', htl, hne] at ih ⊢
      repeat' (first | omega | assumption | intro _ | apply And.intro)
end
end Go.Bk
