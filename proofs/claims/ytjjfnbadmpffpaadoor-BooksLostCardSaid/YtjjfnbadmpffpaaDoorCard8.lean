/- The row and the card of the law BooksLost. -/
import Derived.Test.YtjjfnbadmpffpaaDoorRowed
import Derived.Test.YtjjfnbadmpffpaaDoorLeft
set_option linter.all false

namespace Go.Bk
open Go Go.Ev Go.Proofs Go.RowKit Go.ChangeShapes Go.WideShapes Go.Proofs.YtjjfnbadmpffpaaDoor

set_option maxRecDepth 100000 in
theorem lifted8 (os : Os) (started : os.Started) (H : Type) (enc : TypeId × Value → H) (F : Stop.Interp) :
    ReturnsInHanded {} Tryd.checked os 8 .any ((OpenSpec.ofChange Rows.booksLostSpec).preRow enc Tryd.prog Tryd.f8 Rows.booksLostRow.domain false Rows.booksLostRow.laid) (((OpenSpec.ofChange Rows.booksLostSpec).at F).post enc Tryd.prog Tryd.f8 false true false false) := by
  have hx : ∃ places, DataW.whole enc Tryd.prog ((laidWorld os).forCall (fun _ _ => 0) ⟨#[], #[.slice none 0 0, .slice none 0 0], []⟩).memory Tryd.f8.params.toList Rows.booksLostSpec.vars false (#[.slice none 0 0, .slice none 0 0] : Array Value).toList 8 = some ([.nil, .nil], [], places) := ⟨[], by kernel_rfl⟩
  obtain ⟨places, hx⟩ := hx
  refine returnsInHanded_of_row (C := Tryd.checked) (s := OpenSpec.ofChange Rows.booksLostSpec) own started (by kernel_rfl) Tryd.func8
    (witness_row_at (enc := enc) (C := Tryd.checked) false (laidWorld os) #[.slice none 0 0, .slice none 0 0] rfl (by kernel_rfl) (by kernel_rfl) (by kernel_rfl)
      (OpenSpec.preRow_of_cond 8 hx (by kernel_rfl) (fun k hk => by cases hk) (by kernel_rfl) (laid_met os _))) ?_
  intro W base args ds gs before hval hW _ _ hwt hL hsh _
  have hgs : gs = [] := by
    obtain ⟨_, _, _, hV, _⟩ := hW
    exact (trodVars_none hV).1
  subst hgs
  refine row_step (P := Tryd.prog) (fn := Tryd.f8) (s := Rows.booksLostSpec) laidOut rfl (tb := 4) (by kernel_rfl) Tryd.underlying4 (by decide +kernel) (by decide +kernel) (fun ds hd => ?_) (K := KW) (fun xs hx ha => ?_) W base args ds [] before hval hW ?_ hsh
  · rw [Tryd.params8] at hd
    match ds, hd with
    | [d1, d2], _ => rfl
  · rw [Tryd.params8] at hx ha
    match xs, hx with
    | [x1, x2], _ =>
      obtain ⟨v1, rfl, h1⟩ := arg_strs (ha 0 x1 22 rfl rfl)
      obtain ⟨v2, rfl⟩ := arg_harms (ha 1 x2 30 rfl rfl)
      exact law8 hKW hSW v1 v2 h1
  · have hwt' : (DataW.weightsEach Tryd.prog (Tryd.f8.params.toList ++ []) (ds ++ [])).all (· ≤ reachBytes) = true := hwt
    rw [List.append_nil, List.append_nil] at hwt'
    exact fun k hk => of_decide_eq_true (List.all_eq_true.1 hwt' k hk)

theorem said8 : Rows.BooksLostSaid :=
  OpenClaim.holds_of_cond 8 Tryd.f8 rfl rfl rfl rfl rfl rfl rfl ⟨rfl, rfl, rfl, rfl, rfl⟩ rfl rfl rfl rfl rfl (by kernel_rfl) Tryd.func8 (by kernel_rfl)
    (of_decide_eq_true (by kernel_rfl)) (by unfold Func.isWrapper; first | (rw [if_pos (by decide +kernel)]; kernel_rfl) | (rw [if_neg (by decide +kernel)]; exact ⟨rfl, rfl⟩))
    (fun os started H enc _ F => by rw [OpenClaim.pre_eq_preRow]; exact lifted8 os started H enc F)
theorem plain8 (f : FuncId) (fn : Func) (hf : Tryd.pinned.checked.prog.funcNamed Rows.booksLostRow.func = some f) (hfn : Tryd.pinned.checked.prog.funcs[f]? = some fn) :
    false = Tryd.pinned.checked.prog.looks [] ∧ ∀ (j : Nat) t, fn.params[j]? = some t → Tryd.pinned.checked.prog.wantsStandIn t = false := by
  obtain rfl : f = 8 := Option.some.inj ((show Tryd.prog.funcNamed Rows.booksLostRow.func = some 8 by kernel_rfl).symm.trans hf) |>.symm
  obtain rfl : fn = Tryd.f8 := (Option.some.inj (Tryd.func8.symm.trans hfn)).symm
  refine ⟨by kernel_rfl, fun j t ht => ?_⟩
  rw [Tryd.params8] at ht
  have hall : ∀ t ∈ [22, 30], Tryd.prog.wantsStandIn t = false := by decide +kernel
  exact hall t (by simpa using List.mem_of_getElem? (show [22, 30][j]? = some t by simpa using ht))
end Go.Bk

namespace Go.Proofs.YtjjfnbadmpffpaaDoor
open Go Go.Ev Go.Proofs Go.RowKit Go.Bk
theorem card8 : Rows.BooksLostCardSaid :=
  Claim7.holds_tied_plain_at .later [] _ _ _ _ said8 (fun _ h => by cases h) (by kernel_rfl) (fun _ h => by cases h) booksLost_row_tie rfl ⟨rfl, rfl⟩ (by kernel_rfl) rfl plain8 (by kernel_rfl)
end Go.Proofs.YtjjfnbadmpffpaaDoor
#print axioms Go.Proofs.YtjjfnbadmpffpaaDoor.card8
