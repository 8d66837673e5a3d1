/- What the rows and cards of the laws of books have in common: a world for the witness, and what arguments read as. -/
import Derived.Test.YtjjfnbadmpffpaaDoorEvFive
import Derived.Test.YtjjfnbadmpffpaaDoorCut
import Derived.Test.YtjjfnbadmpffpaaDoorHarm
import Derived.Test.YtjjfnbadmpffpaaDoorCards
import Derived.Test.YtjjfnbadmpffpaaDoorTie
import Derived.ProofKit
import Derived.OpenShut
import Derived.Lib.LaidTab
import Derived.Lib.LaidIn
set_option linter.all false

namespace Go.Bk
open Go Go.Ev Go.Proofs Go.RowKit Go.ChangeShapes Go.WideShapes Go.Proofs.YtjjfnbadmpffpaaDoor

theorem own : ownKnob Tryd.prog.godebug = none := by kernel_rfl
theorem laidOut : laidOutB Tryd.prog = true := by kernel_rfl

/-- A world for the witness: the settled one, the two tables holding what their initialisers lay. -/
noncomputable def laidWorld (os : Os) : World :=
  let w0 := World.holding Tryd.prog os ⟨#[], #[], []⟩
  let put (h : Array Obj) (g : Nat) (cs : Array Value) : Array Obj := h.modify g fun
    | .cells _ t frozen => .cells cs t frozen
    | o => o
  let h1 := put w0.heap 1 (Pinned.utf8FirstZ.map fun z : Nat => Value.int .u8 (z : Int)).toArray
  let h2 := put h1 2 (([128, 191, 160, 191, 128, 159, 144, 191, 128, 143] ++ List.replicate 22 0).map fun z : Nat => Value.int .u8 (z : Int)).toArray
  { w0 with heap := h2 }
theorem laid_met (os : Os) (args : Array Value) : laidMet Tryd.prog Rows.booksWriteRow.laid ((laidWorld os).forCall (fun _ _ => 0) ⟨#[], args, []⟩).memory :=
  laidMet_of_run' 8 (by kernel_rfl) (by kernel_rfl)

theorem shp3 : shp Tryd.prog 6 3 = some [.int .i64] := by kernel_rfl
theorem shp9 : shp Tryd.prog 6 9 = some [.str] := by kernel_rfl
theorem shp22 : shp Tryd.prog 6 22 = some [.sl 16 [.str]] := by kernel_rfl
theorem shp30 : shp Tryd.prog 6 30 = some [.sl 24 [.int .i64, .int .i64, .int .u8]] := by kernel_rfl
theorem shp42 : shp Tryd.prog 6 42 = some [.int .i64, .sl 8 [.int .i64], .str] := by kernel_rfl
theorem shp53 : shp Tryd.prog 6 53 = some [.sl 24 [.int .i64, .int .i64, .int .u8], .sl 24 [.int .i64, .int .i64, .int .u8], .bool] := by kernel_rfl
theorem und42 : ∃ fs, Tryd.prog.underlying 42 = some (.struct fs) := ⟨_, Tryd.underlying42⟩
theorem und53 : ∃ fs, Tryd.prog.underlying 53 = some (.struct fs) := ⟨_, Tryd.underlying53⟩

def FitRow (es : List Sh) (row : List IV) : Prop := ∀ (j : Nat) (s : Sh) (x : IV), es[j]? = some s → row[j]? = some x → ShFit s x
theorem rows_ints : ∀ rows : List (List IV), (∀ row ∈ rows, row.length = [Sh.int IntKind.i64].length) → (∀ row ∈ rows, FitRow [Sh.int IntKind.i64] row) → ∃ fs : List Int, rows = fs.map fun n => [IV.int .i64 n]
  | [], _, _ => ⟨[], rfl⟩
  | row :: rows, hrl, hr => by
    obtain ⟨fs, hfs⟩ := rows_ints rows (fun r hr' => hrl r (by simp [hr'])) (fun r hr' => hr r (by simp [hr']))
    have h1 := hrl row (by simp)
    match row, h1 with
    | [c], _ =>
      have hc := hr [c] (by simp) 0 _ c rfl rfl
      cases hc with
      | int _ n _ _ => exact ⟨n :: fs, by simp [hfs]⟩
theorem rows_strs : ∀ rows : List (List IV), (∀ row ∈ rows, row.length = [Sh.str].length) → (∀ row ∈ rows, FitRow [Sh.str] row) → ∃ fs : List W, rows = (fs.map fun n => [IV.str n]) ∧ ∀ s ∈ fs, s.length ≤ 1000000000000000
  | [], _, _ => ⟨[], rfl, by simp⟩
  | row :: rows, hrl, hr => by
    obtain ⟨fs, hfs, hl⟩ := rows_strs rows (fun r hr' => hrl r (by simp [hr'])) (fun r hr' => hr r (by simp [hr']))
    have h1 := hrl row (by simp)
    match row, h1 with
    | [c], _ =>
      have hc := hr [c] (by simp) 0 _ c rfl rfl
      cases hc with
      | str s hs =>
        refine ⟨s :: fs, by simp [hfs], fun t ht => ?_⟩
        rcases List.mem_cons.1 ht with rfl | ht
        · simp only [reachBytes] at hs; omega
        · exact hl t ht
theorem rows_harms : ∀ rows : List (List IV), (∀ row ∈ rows, row.length = [Sh.int IntKind.i64, .int .i64, .int .u8].length) → (∀ row ∈ rows, FitRow [Sh.int IntKind.i64, .int .i64, .int .u8] row) → ∃ fs : List (Int × Int × UInt8), rows = fs.map harmV
  | [], _, _ => ⟨[], rfl⟩
  | row :: rows, hrl, hr => by
    obtain ⟨fs, hfs⟩ := rows_harms rows (fun r hr' => hrl r (by simp [hr'])) (fun r hr' => hr r (by simp [hr']))
    have h1 := hrl row (by simp)
    match row, h1 with
    | [a, b, c], _ =>
      have ha := hr [a, b, c] (by simp) 0 _ a rfl rfl
      have hb := hr [a, b, c] (by simp) 1 _ b rfl rfl
      have hc := hr [a, b, c] (by simp) 2 _ c rfl rfl
      cases ha with
      | int _ n _ _ =>
        cases hb with
        | int _ m _ _ =>
          cases hc with
          | int _ k k1 k2 =>
            have e1 : (0 : Int) ≤ k := k1
            have e2 : k ≤ 255 := k2
            refine ⟨(n, m, UInt8.ofNat k.toNat) :: fs, ?_⟩
            simp [hfs]
            omega

set_option maxRecDepth 100000 in
theorem arg_int {x : IV} (h : ArgOf Tryd.prog 3 x) : ∃ n, x = .int .i64 n := by
  obtain ⟨ss, h1, h2⟩ := h
  rw [shp3] at h1
  injection h1 with h1
  subst h1
  rw [Tryd.underlying3] at h2
  obtain ⟨s, hs, hf⟩ := h2
  injection hs with hs _
  subst hs
  cases hf with
  | int _ n _ _ => exact ⟨n, rfl⟩
set_option maxRecDepth 100000 in
theorem arg_str {x : IV} (h : ArgOf Tryd.prog 9 x) : ∃ s, x = .str s ∧ s.length ≤ 1000000000000000 := by
  obtain ⟨ss, h1, h2⟩ := h
  rw [shp9] at h1
  injection h1 with h1
  subst h1
  rw [Tryd.underlying9] at h2
  obtain ⟨s, hs, hf⟩ := h2
  injection hs with hs _
  subst hs
  cases hf with
  | str s hs => exact ⟨s, rfl, by simp only [reachBytes] at hs; omega⟩
set_option maxRecDepth 100000 in
theorem arg_strs {x : IV} (h : ArgOf Tryd.prog 22 x) : ∃ v, x = strs v ∧ ∀ s ∈ v, s.length ≤ 1000000000000000 := by
  obtain ⟨ss, h1, h2⟩ := h
  rw [shp22] at h1
  injection h1 with h1
  subst h1
  rw [Tryd.underlying22] at h2
  obtain ⟨s, hs, hf⟩ := h2
  injection hs with hs _
  subst hs
  cases hf with
  | sl _ _ rows hw hm hrl hr =>
    obtain ⟨fs, rfl, hl⟩ := rows_strs rows hrl hr
    exact ⟨fs, rfl, hl⟩
set_option maxRecDepth 100000 in
theorem arg_harms {x : IV} (h : ArgOf Tryd.prog 30 x) : ∃ v, x = harms v := by
  obtain ⟨ss, h1, h2⟩ := h
  rw [shp30] at h1
  injection h1 with h1
  subst h1
  rw [Tryd.underlying30] at h2
  obtain ⟨s, hs, hf⟩ := h2
  injection hs with hs _
  subst hs
  cases hf with
  | sl _ _ rows hw hm hrl hr =>
    obtain ⟨fs, rfl⟩ := rows_harms rows hrl hr
    exact ⟨fs, rfl⟩
set_option maxRecDepth 100000 in
theorem arg_mix {x : IV} (h : ArgOf Tryd.prog 42 x) : ∃ n v s, x = .agg [.int .i64 n, ints v, .str s] ∧ s.length ≤ 1000000000000000 := by
  obtain ⟨ss, h1, h2⟩ := h
  rw [shp42] at h1
  injection h1 with h1
  subst h1
  obtain ⟨fs', hu⟩ := und42
  rw [hu] at h2
  obtain ⟨xs, rfl, hl, hf⟩ := h2
  match xs, hl with
  | [a, b, c], _ =>
    have ha := hf 0 _ a rfl rfl
    have hb := hf 1 _ b rfl rfl
    have hc := hf 2 _ c rfl rfl
    cases ha with
    | int _ n _ _ =>
    cases hb with
    | sl _ _ rows hw hm hrl hr =>
    cases hc with
    | str s hs =>
      obtain ⟨fs, rfl⟩ := rows_ints rows hrl hr
      exact ⟨n, fs, s, rfl, by simp only [reachBytes] at hs; omega⟩
set_option maxRecDepth 100000 in
theorem arg_copies {x : IV} (h : ArgOf Tryd.prog 53 x) : ∃ v u b, x = .agg [harms v, harms u, .bool b] := by
  obtain ⟨ss, h1, h2⟩ := h
  rw [shp53] at h1
  injection h1 with h1
  subst h1
  obtain ⟨fs', hu⟩ := und53
  rw [hu] at h2
  obtain ⟨xs, rfl, hl, hf⟩ := h2
  match xs, hl with
  | [a, b, c], _ =>
    have ha := hf 0 _ a rfl rfl
    have hb := hf 1 _ b rfl rfl
    have hc := hf 2 _ c rfl rfl
    cases ha with
    | sl _ _ rows hw hm hrl hr =>
    cases hb with
    | sl _ _ rows' hw' hm' hrl' hr' =>
    cases hc with
    | bool b =>
      obtain ⟨fs, rfl⟩ := rows_harms rows hrl hr
      obtain ⟨gs, rfl⟩ := rows_harms rows' hrl' hr'
      exact ⟨fs, gs, b, rfl⟩
end Go.Bk
