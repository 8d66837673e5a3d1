/- The row and the card of the law BooksCopies. -/
import Derived.Test.YtjjfnbadmpffpaaDoorRowed
import Derived.Test.YtjjfnbadmpffpaaDoorOrders
set_option linter.all false

namespace Go.Bk
open Go Go.Ev Go.Proofs Go.RowKit Go.ChangeShapes Go.WideShapes Go.Proofs.YtjjfnbadmpffpaaDoor

set_option maxRecDepth 100000 in
theorem lifted7 (os : Os) (started : os.Started) (H : Type) (enc : TypeId × Value → H) (F : Stop.Interp) :
    ReturnsInHanded {} Tryd.checked os 7 .any ((OpenSpec.ofChange Rows.booksCopiesSpec).preRow enc Tryd.prog Tryd.f7 Rows.booksCopiesRow.domain false Rows.booksCopiesRow.laid) (((OpenSpec.ofChange Rows.booksCopiesSpec).at F).post enc Tryd.prog Tryd.f7 false true false false) := by
  have hx : ∃ places, DataW.whole enc Tryd.prog ((laidWorld os).forCall (fun _ _ => 0) ⟨#[], #[.slice none 0 0, .agg #[.slice none 0 0, .slice none 0 0, .bool false]], []⟩).memory Tryd.f7.params.toList Rows.booksCopiesSpec.vars false (#[.slice none 0 0, .agg #[.slice none 0 0, .slice none 0 0, .bool false]] : Array Value).toList 8 = some ([.nil, .agg [.nil, .nil, .lit (.bool false)]], [], places) := ⟨[], by kernel_rfl⟩
  obtain ⟨places, hx⟩ := hx
  refine returnsInHanded_of_row (C := Tryd.checked) (s := OpenSpec.ofChange Rows.booksCopiesSpec) own started (by kernel_rfl) Tryd.func7
    (witness_row_at (enc := enc) (C := Tryd.checked) false (laidWorld os) #[.slice none 0 0, .agg #[.slice none 0 0, .slice none 0 0, .bool false]] rfl (by kernel_rfl) (by kernel_rfl) (by kernel_rfl)
      (OpenSpec.preRow_of_cond 8 hx (by kernel_rfl) (fun k hk => by cases hk) (by kernel_rfl) (laid_met os _))) ?_
  intro W base args ds gs before hval hW _ _ hwt hL hsh _
  have hgs : gs = [] := by
    obtain ⟨_, _, _, hV, _⟩ := hW
    exact (trodVars_none hV).1
  subst hgs
  refine row_step (P := Tryd.prog) (fn := Tryd.f7) (s := Rows.booksCopiesSpec) laidOut rfl (tb := 4) (by kernel_rfl) Tryd.underlying4 (by decide +kernel) (by decide +kernel) (fun ds hd => ?_) (K := KW) (fun xs hx ha => ?_) W base args ds [] before hval hW ?_ hsh
  · rw [Tryd.params7] at hd
    match ds, hd with
    | [d1, d2], _ => rfl
  · rw [Tryd.params7] at hx ha
    match xs, hx with
    | [x1, x2], _ =>
      obtain ⟨v1, rfl, h1⟩ := arg_strs (ha 0 x1 22 rfl rfl)
      obtain ⟨v2, u2, s2, rfl⟩ := arg_copies (ha 1 x2 53 rfl rfl)
      exact law7 hKW hSW v1 v2 u2 s2 h1
  · have hwt' : (DataW.weightsEach Tryd.prog (Tryd.f7.params.toList ++ []) (ds ++ [])).all (· ≤ reachBytes) = true := hwt
    rw [List.append_nil, List.append_nil] at hwt'
    exact fun k hk => of_decide_eq_true (List.all_eq_true.1 hwt' k hk)

theorem said7 : Rows.BooksCopiesSaid :=
  OpenClaim.holds_of_cond 7 Tryd.f7 rfl rfl rfl rfl rfl rfl rfl ⟨rfl, rfl, rfl, rfl, rfl⟩ rfl rfl rfl rfl rfl (by kernel_rfl) Tryd.func7 (by kernel_rfl)
    (of_decide_eq_true (by kernel_rfl)) (by unfold Func.isWrapper; first | (rw [if_pos (by decide +kernel)]; kernel_rfl) | (rw [if_neg (by decide +kernel)]; exact ⟨rfl, rfl⟩))
    (fun os started H enc _ F => by rw [OpenClaim.pre_eq_preRow]; exact lifted7 os started H enc F)
theorem plain7 (f : FuncId) (fn : Func) (hf : Tryd.pinned.checked.prog.funcNamed Rows.booksCopiesRow.func = some f) (hfn : Tryd.pinned.checked.prog.funcs[f]? = some fn) :
    false = Tryd.pinned.checked.prog.looks [] ∧ ∀ (j : Nat) t, fn.params[j]? = some t → Tryd.pinned.checked.prog.wantsStandIn t = false := by
  obtain rfl : f = 7 := Option.some.inj ((show Tryd.prog.funcNamed Rows.booksCopiesRow.func = some 7 by kernel_rfl).symm.trans hf) |>.symm
  obtain rfl : fn = Tryd.f7 := (Option.some.inj (Tryd.func7.symm.trans hfn)).symm
  refine ⟨by kernel_rfl, fun j t ht => ?_⟩
  rw [Tryd.params7] at ht
  have hall : ∀ t ∈ [22, 53], Tryd.prog.wantsStandIn t = false := by decide +kernel
  exact hall t (by simpa using List.mem_of_getElem? (show [22, 53][j]? = some t by simpa using ht))
end Go.Bk

namespace Go.Proofs.YtjjfnbadmpffpaaDoor
open Go Go.Ev Go.Proofs Go.RowKit Go.Bk
theorem card7 : Rows.BooksCopiesCardSaid :=
  Claim7.holds_tied_plain_at .later [] _ _ _ _ said7 (fun _ h => by cases h) (by kernel_rfl) (fun _ h => by cases h) booksCopies_row_tie rfl ⟨rfl, rfl⟩ (by kernel_rfl) rfl plain7 (by kernel_rfl)
end Go.Proofs.YtjjfnbadmpffpaaDoor
#print axioms Go.Proofs.YtjjfnbadmpffpaaDoor.card7
