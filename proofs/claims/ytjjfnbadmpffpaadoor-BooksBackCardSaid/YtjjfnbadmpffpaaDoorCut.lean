/- The contract of the cut at line feeds. -/
import Derived.Test.YtjjfnbadmpffpaaDoorLines
import Derived.Test.YtjjfnbadmpffpaaDoorSplit
import Derived.Lib.SplitLaws
import Derived.ChangeAgain
set_option linter.all false

namespace Go.Bk
open Go Go.Ev Go.Proofs Go.RowKit

theorem spl_nl (s : W) : spl (10 :: s) = [] :: spl s := by simp [spl]
theorem spl_cons (c : UInt8) (s : W) (h : c ≠ 10) : spl (c :: s) = (c :: (spl s).headD []) :: (spl s).tail := by simp [spl, h]

theorem splitK_spl : ∀ s : W, Lib.splitK [10] 0 (Lib.count s [10]) s = spl s
  | [] => by
    rw [Lib.count_miss (by simp [Lib.index])]
    rfl
  | c :: s => by
    have ih := splitK_spl s
    by_cases h : c = 10
    · subst h
      have hix : Lib.index ((10 : UInt8) :: s) [10] = 0 := by rw [Lib.index]; simp [List.isPrefixOf]
      rw [Lib.count_cons_eq, Nat.add_comm, Lib.splitK, hix, spl_nl, ← ih]
      simp
    · rw [Lib.count_cons_ne c 10 s h, spl_cons c s h, ← ih]
      have hp : ([10] : List UInt8).isPrefixOf (c :: s) = false := by simp [List.isPrefixOf, Ne.symm h]
      have hix : Lib.index (c :: s) [10] = if Lib.index s [10] == -1 then -1 else Lib.index s [10] + 1 := by rw [Lib.index, hp]; simp
      cases hk : Lib.count s [10] with
      | zero => simp [Lib.splitK]
      | succ k =>
        have hm : ¬ Lib.index s [10] = -1 := fun e => by rw [Lib.count_miss e] at hk; cases hk
        have hge := Lib.index_ge s [10]
        obtain ⟨j, hj⟩ : ∃ j : Nat, Lib.index s [10] = j := ⟨(Lib.index s [10]).toNat, by omega⟩
        have h1 : ¬ ((j : Int) == -1) = true := by simp
        have h2 : ¬ ((j : Int) + 1 == -1) = true := by simp; omega
        have h3 : ((j : Int) + 1).toNat = j + 1 := by omega
        simp only [Lib.splitK, hix, hj, if_neg h1, if_neg h2, h3, Int.toNat_natCast]
        simp

theorem spl_len : ∀ s : W, (spl s).length ≤ s.length + 1
  | [] => by simp [spl]
  | c :: s => by
    have ih := spl_len s
    by_cases h : c = 10
    · subst h; rw [spl_nl]; simp; exact ih
    · rw [spl_cons c s h]; simp; omega

def KW : World → Prop := fun w => w.ShapedOpen Tryd.prog
theorem hKW : ∀ w w', KW w → Below w.heap.size w w' → KW w' := fun _ _ h hb => World.ShapedOpen.keptBut h (hb.frame (fun _ => False)) (fun _ c => c.elim)

theorem hSW (s : W) (hs : s.length ≤ 1000000) : Ev.Good Tryd.prog KW 68 [.str s, .str [10]] (strs (spl s)) := by
  intro w ok vs hk hok hl hx
  obtain ⟨v0, v1, rfl⟩ : ∃ v0 v1, vs = [v0, v1] := by
    match vs, hl with
    | [a, b], _ => exact ⟨a, b, rfl⟩
  have r0 := hx 0 _ v0 rfl rfl
  have r1 := hx 1 _ v1 rfl rfl
  cases r0
  cases r1
  have := Tryd.strings_Split_shaped ⟨s.toArray⟩ ⟨[10].toArray⟩ w hk (by simp [ByteArray.size]; omega) (by simp [ByteArray.size])
  refine this.mono fun e w' ⟨he, hw⟩ => ?_
  subst he hw
  have hb := below_alloc w (.cells ((Lib.splitB ⟨[10].toArray⟩ 0 (Lib.countB ⟨s.toArray⟩ ⟨[10].toArray⟩) ⟨s.toArray⟩).map Value.string).toArray 9)
  have hd : (Lib.splitB ⟨[10].toArray⟩ 0 (Lib.countB ⟨s.toArray⟩ ⟨[10].toArray⟩) ⟨s.toArray⟩).map (·.data.toList) = spl s := by
    rw [Lib.splitB_data]
    exact splitK_spl s
  have hlen := Lib.splitB_all ⟨[10].toArray⟩ (by simp [ByteArray.size]) 0 _ ⟨s.toArray⟩ rfl
  generalize Lib.countB ⟨s.toArray⟩ ⟨[10].toArray⟩ = n at *
  generalize Lib.splitB ⟨[10].toArray⟩ 0 n ⟨s.toArray⟩ = L at *
  refine ⟨_, rfl, ?_, hb⟩
  have hl2 : (spl s).length = n + 1 := by rw [← hd, List.length_map, hlen]
  have hnl : n + 1 ≤ maxLen := by
    have := spl_len s
    simp only [maxLen]
    omega
  have rep := RepI.sl (ok := ok) (w := w.alloc (.cells (L.map Value.string).toArray 9)) 1 ((spl s).map fun s => [IV.str s]) w.heap.size 0 (n + 1) (fun k => .string (L.getD k default)) (by simp [hl2]) hnl (by simp) (fun k hk => ?_) (fun i j c x hi hj => ?_)
  · simpa [hl2] using rep
  · simp [hl2] at hk
    have hkl : k < L.length := by omega
    refine ⟨hok _ (Nat.le_refl _), ?_, rfl⟩
    rw [Nat.zero_add]
    exact cell_alloc_new w _ 9 k _ (by simp [hkl])
  · simp only [List.getElem?_map, Option.map_eq_some_iff] at hi
    obtain ⟨t, ht, rfl⟩ := hi
    have hj0 : j = 0 := by
      have := (List.getElem?_eq_some_iff.1 hj).1
      simp at this
      exact this
    subst hj0
    simp at hj
    subst hj
    rw [← hd, List.getElem?_map, Option.map_eq_some_iff] at ht
    obtain ⟨z, hz, rfl⟩ := ht
    have e : L.getD (i * 1 + 0) default = z := by simp [hz]
    rw [e]
    have := RepI.str (ok := ok) (w := w.alloc (.cells (L.map Value.string).toArray 9)) z.data.toList
    simpa using this
end Go.Bk
