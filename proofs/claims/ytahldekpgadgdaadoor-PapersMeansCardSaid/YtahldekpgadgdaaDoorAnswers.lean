/- Two laws that compare with the document. -/
import Derived.Test.YtahldekpgadgdaaDoorWorks
set_option linter.all false

namespace Go.Pp
open Go Go.Ev Go.Proofs Go.RowKit
section
variable {K : World → Prop} (hK : ∀ w w', K w → Below w.heap.size w w' → K w')
variable (hS : ∀ s : W, s.length ≤ 1000 → Good Tryd.prog K 63 [.str s, .str [32]] (strs (spl s)))
include hK hS
set_option maxRecDepth 8000 in
theorem law5 (s : W) (fs : List Int) (n : Int) : Good Tryd.prog K 5 [paperV s fs, .int .i64 n] (.bool true) := by
  have g13 := good13 hK hS
  refine good_of_wp hK c5_ok (by simp) ?_
  have wk : ∀ (C : Env → Objs → Prop) (d : Option Nat) (l : List AOper) (e : Env) (o : Objs), runOps Tryd.prog K C l (bnd d (.iv (.bool true)) e) o → callK Tryd.prog K C d 13 false l e o (some []) := fun _ _ _ _ _ h => callK_of g13 (by simp) h
  simp
  refine fun _ => ⟨fun h1 => ⟨fun h2 => ?_, fun h2 => ?_⟩, fun h1 => ?_⟩
  · refine wk _ _ _ _ _ ?_
    simp
  · refine callK_of (good18 hK s (by omega)) (by simp) ?_
    simp
    refine fun _ => ⟨fun h3 => ⟨fun h4 => ?_, fun h4 => ?_⟩, fun h3 => ?_⟩
    · refine wk _ _ _ _ _ ?_
      simp
    all_goals
      have fit : fit s := ⟨by omega, by omega⟩
      refine callK_of (good17 hK s fs (by omega)) (by simp) ?_
      simp
      refine callK_of (good19 hK hS s fs fit) (by simp) ?_
      simp
      refine callK_of (good20 hK s fs fit) (by simp) ?_
      simp
      refine callK_of (good21 hK hS s fs fit) (by simp) ?_
      simp
      refine callK_of (good22 hK s fs fit) (by simp) ?_
      simp
      refine callK_of (good16 hK hS s fs n fit) (by simp) ?_
      simp [writeV]
      refine callK_of (good23 hK s fs n fit) (by simp) ?_
      simp [writeV]
      refine callK_of (good24 hK fs fs) (by simp) ?_
      simp
      refine wk _ _ _ _ _ ?_
      simp
  · refine wk _ _ _ _ _ ?_
    simp
set_option maxRecDepth 8000 in
theorem law7 (s : W) (fs : List Int) (n : Int) : Good Tryd.prog K 7 [paperV s fs, .int .i64 n] (.bool true) := by
  have g13 := good13 hK hS
  refine good_of_wp hK c7_ok (by simp) ?_
  simp
  refine callK_of (good27 hK s fs) (by simp) ?_
  cases hf : farB s fs with
  | true =>
    simp
    refine callK_of g13 (by simp) ?_
    simp
  | false =>
    have fit := fit_of_far hf
    have hl : fs.length ≤ 40 := by simp [farB] at hf; omega
    simp
    refine callK_of (good17 hK s fs (by omega)) (by simp) ?_
    simp
    refine callK_of (good28 hK hS s fs n fit) (by simp) ?_
    simp [meansV]
    refine callK_of (good29 hK s fs n fit) (by simp) ?_
    simp [meansV]
    refine callK_of (good26 hK hS s fs n fit) (by simp) ?_
    simp [countV]
    refine callK_of (good30 hK s fs n fit) (by simp) ?_
    simp [countV]
    refine callK_of (good31 hK hS s fs fit) (by simp) ?_
    simp [strictV]
    refine callK_of (good32 hK s fs fit) (by simp) ?_
    simp [strictV]
    refine callK_of (good24 hK fs fs) (by simp) ?_
    simp
    refine callK_of g13 (by simp) ?_
    simp
end
end Go.Pp
