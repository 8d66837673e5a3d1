/- What the rows and cards of the laws of papers have in common: a world for the witness, and what arguments read as. -/
import Derived.Test.YtahldekpgadgdaaDoorEvFour
import Derived.Test.YtahldekpgadgdaaDoorCut
import Derived.Test.YtahldekpgadgdaaDoorCards
import Derived.Test.YtahldekpgadgdaaDoorTie
import Derived.ProofKit
import Derived.OpenShut
import Derived.Lib.LaidTab
import Derived.Lib.LaidIn
set_option linter.all false

namespace Go.Pp
open Go Go.Ev Go.Proofs Go.RowKit Go.ChangeShapes Go.WideShapes Go.Proofs.YtahldekpgadgdaaDoor

theorem own : ownKnob Tryd.prog.godebug = none := by kernel_rfl
theorem laidOut : laidOutB Tryd.prog = true := by kernel_rfl

/-- A world for the witness: the settled one, the two tables holding what their initialisers lay. -/
noncomputable def laidWorld (os : Os) : World :=
  let w0 := World.holding Tryd.prog os ⟨#[], #[], []⟩
  let put (h : Array Obj) (g : Nat) (cs : Array Value) : Array Obj := h.modify g fun
    | .cells _ t frozen => .cells cs t frozen
    | o => o
  let h1 := put w0.heap 1 (Pinned.utf8FirstZ.map fun z : Nat => Value.int .u8 (z : Int)).toArray
  let h2 := put h1 2 (([128, 191, 160, 191, 128, 159, 144, 191, 128, 143] ++ List.replicate 22 0).map fun z : Nat => Value.int .u8 (z : Int)).toArray
  { w0 with heap := h2 }
theorem laid_met (os : Os) (args : Array Value) : laidMet Tryd.prog Rows.papersReadingsRow.laid ((laidWorld os).forCall (fun _ _ => 0) ⟨#[], args, []⟩).memory :=
  laidMet_of_run' 8 (by kernel_rfl) (by kernel_rfl)

theorem shp24 : shp Tryd.prog 6 24 = some [.str, .sl 8 [.int .i64]] := by kernel_rfl
theorem shp3 : shp Tryd.prog 6 3 = some [.int .i64] := by kernel_rfl
theorem und24 : ∃ fs, Tryd.prog.underlying 24 = some (.struct fs) := ⟨_, Tryd.underlying24⟩

theorem rows_ints : ∀ rows : List (List IV), (∀ row ∈ rows, row.length = [Sh.int IntKind.i64].length) → (∀ row ∈ rows, ∀ (j : Nat) (s : Sh) (x : IV), [Sh.int IntKind.i64][j]? = some s → row[j]? = some x → ShFit s x) → ∃ fs : List Int, rows = fs.map fun n => [IV.int .i64 n]
  | [], _, _ => ⟨[], rfl⟩
  | row :: rows, hrl, hr => by
    obtain ⟨fs, hfs⟩ := rows_ints rows (fun r hr' => hrl r (by simp [hr'])) (fun r hr' => hr r (by simp [hr']))
    have h1 := hrl row (by simp)
    match row, h1 with
    | [c], _ =>
      have hc := hr [c] (by simp) 0 _ c rfl rfl
      cases hc with
      | int _ n _ _ => exact ⟨n :: fs, by simp [hfs]⟩

set_option maxRecDepth 100000 in
theorem arg_paper {x : IV} (h : ArgOf Tryd.prog 24 x) : ∃ s fs, x = paperV s fs ∧ s.length ≤ reachBytes ∧ fs.length * 8 ≤ reachBytes := by
  obtain ⟨ss, h1, h2⟩ := h
  rw [shp24] at h1
  injection h1 with h1
  subst h1
  obtain ⟨fs', hu⟩ := und24
  rw [hu] at h2
  obtain ⟨xs, rfl, hl, hf⟩ := h2
  match xs, hl with
  | [a, b], _ =>
    have ha := hf 0 _ a rfl rfl
    have hb := hf 1 _ b rfl rfl
    cases ha with
    | str s hs =>
    cases hb with
    | sl _ _ rows hw hm hrl hr =>
      have := rows_ints rows hrl hr
      obtain ⟨fs, rfl⟩ := this
      exact ⟨s, fs, rfl, hs, by simpa using hw⟩
set_option maxRecDepth 100000 in
theorem arg_int {x : IV} (h : ArgOf Tryd.prog 3 x) : ∃ n, x = .int .i64 n := by
  obtain ⟨ss, h1, h2⟩ := h
  rw [shp3] at h1
  injection h1 with h1
  subst h1
  rw [Tryd.underlying3] at h2
  obtain ⟨s, hs, hf⟩ := h2
  injection hs with hs _
  subst hs
  cases hf with
  | int _ n _ _ => exact ⟨n, rfl⟩

theorem shp22 : shp Tryd.prog 6 22 = some [.sl 8 [.int .i64]] := by kernel_rfl
theorem shp35 : shp Tryd.prog 6 35 = some [.str, .str] := by kernel_rfl
theorem und35 : ∃ fs, Tryd.prog.underlying 35 = some (.struct fs) := ⟨_, Tryd.underlying35⟩
set_option maxRecDepth 100000 in
theorem arg_ints {x : IV} (h : ArgOf Tryd.prog 22 x) : ∃ v, x = ints v := by
  obtain ⟨ss, h1, h2⟩ := h
  rw [shp22] at h1
  injection h1 with h1
  subst h1
  rw [Tryd.underlying22] at h2
  obtain ⟨s, hs, hf⟩ := h2
  injection hs with hs _
  subst hs
  cases hf with
  | sl _ _ rows hw hm hrl hr =>
    obtain ⟨fs, rfl⟩ := rows_ints rows hrl hr
    exact ⟨fs, rfl⟩
set_option maxRecDepth 100000 in
theorem arg_both {x : IV} (h : ArgOf Tryd.prog 35 x) : ∃ p q, x = .agg [.str p, .str q] := by
  obtain ⟨ss, h1, h2⟩ := h
  rw [shp35] at h1
  injection h1 with h1
  subst h1
  obtain ⟨fs', hu⟩ := und35
  rw [hu] at h2
  obtain ⟨xs, rfl, hl, hf⟩ := h2
  match xs, hl with
  | [a, b], _ =>
    have ha := hf 0 _ a rfl rfl
    have hb := hf 1 _ b rfl rfl
    cases ha with
    | str s hs =>
    cases hb with
    | str q hq => exact ⟨s, q, rfl⟩
end Go.Pp
