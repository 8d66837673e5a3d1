/- The row and the card of the law BooksBack. -/
import Derived.Test.YtjjfnbadmpffpaaDoorRowed
import Derived.Test.YtjjfnbadmpffpaaDoorLaws
set_option linter.all false

namespace Go.Bk
open Go Go.Ev Go.Proofs Go.RowKit Go.ChangeShapes Go.WideShapes Go.Proofs.YtjjfnbadmpffpaaDoor

set_option maxRecDepth 100000 in
theorem lifted11 (os : Os) (started : os.Started) (H : Type) (enc : TypeId × Value → H) (F : Stop.Interp) :
    ReturnsInHanded {} Tryd.checked os 11 .any ((OpenSpec.ofChange Rows.booksBackSpec).preRow enc Tryd.prog Tryd.f11 Rows.booksBackRow.domain false Rows.booksBackRow.laid) (((OpenSpec.ofChange Rows.booksBackSpec).at F).post enc Tryd.prog Tryd.f11 false true false false) := by
  have hx : ∃ places, DataW.whole enc Tryd.prog ((laidWorld os).forCall (fun _ _ => 0) ⟨#[], #[.slice none 0 0, .string ⟨#[]⟩], []⟩).memory Tryd.f11.params.toList Rows.booksBackSpec.vars false (#[.slice none 0 0, .string ⟨#[]⟩] : Array Value).toList 8 = some ([.nil, .lit (.string [])], [], places) := ⟨[], by kernel_rfl⟩
  obtain ⟨places, hx⟩ := hx
  refine returnsInHanded_of_row (C := Tryd.checked) (s := OpenSpec.ofChange Rows.booksBackSpec) own started (by kernel_rfl) Tryd.func11
    (witness_row_at (enc := enc) (C := Tryd.checked) false (laidWorld os) #[.slice none 0 0, .string ⟨#[]⟩] rfl (by kernel_rfl) (by kernel_rfl) (by kernel_rfl)
      (OpenSpec.preRow_of_cond 8 hx (by kernel_rfl) (fun k hk => by cases hk) (by kernel_rfl) (laid_met os _))) ?_
  intro W base args ds gs before hval hW _ _ hwt hL hsh _
  have hgs : gs = [] := by
    obtain ⟨_, _, _, hV, _⟩ := hW
    exact (trodVars_none hV).1
  subst hgs
  refine row_step (P := Tryd.prog) (fn := Tryd.f11) (s := Rows.booksBackSpec) laidOut rfl (tb := 4) (by kernel_rfl) Tryd.underlying4 (by decide +kernel) (by decide +kernel) (fun ds hd => ?_) (K := KW) (fun xs hx ha => ?_) W base args ds [] before hval hW ?_ hsh
  · rw [Tryd.params11] at hd
    match ds, hd with
    | [d1, d2], _ => rfl
  · rw [Tryd.params11] at hx ha
    match xs, hx with
    | [x1, x2], _ =>
      obtain ⟨v1, rfl, h1⟩ := arg_strs (ha 0 x1 22 rfl rfl)
      obtain ⟨v2, rfl, h2⟩ := arg_str (ha 1 x2 9 rfl rfl)
      exact law11 hKW hSW v1 v2 h1 h2
  · have hwt' : (DataW.weightsEach Tryd.prog (Tryd.f11.params.toList ++ []) (ds ++ [])).all (· ≤ reachBytes) = true := hwt
    rw [List.append_nil, List.append_nil] at hwt'
    exact fun k hk => of_decide_eq_true (List.all_eq_true.1 hwt' k hk)

theorem said11 : Rows.BooksBackSaid :=
  OpenClaim.holds_of_cond 11 Tryd.f11 rfl rfl rfl rfl rfl rfl rfl ⟨rfl, rfl, rfl, rfl, rfl⟩ rfl rfl rfl rfl rfl (by kernel_rfl) Tryd.func11 (by kernel_rfl)
    (of_decide_eq_true (by kernel_rfl)) (by unfold Func.isWrapper; first | (rw [if_pos (by decide +kernel)]; kernel_rfl) | (rw [if_neg (by decide +kernel)]; exact ⟨rfl, rfl⟩))
    (fun os started H enc _ F => by rw [OpenClaim.pre_eq_preRow]; exact lifted11 os started H enc F)
theorem plain11 (f : FuncId) (fn : Func) (hf : Tryd.pinned.checked.prog.funcNamed Rows.booksBackRow.func = some f) (hfn : Tryd.pinned.checked.prog.funcs[f]? = some fn) :
    false = Tryd.pinned.checked.prog.looks [] ∧ ∀ (j : Nat) t, fn.params[j]? = some t → Tryd.pinned.checked.prog.wantsStandIn t = false := by
  obtain rfl : f = 11 := Option.some.inj ((show Tryd.prog.funcNamed Rows.booksBackRow.func = some 11 by kernel_rfl).symm.trans hf) |>.symm
  obtain rfl : fn = Tryd.f11 := (Option.some.inj (Tryd.func11.symm.trans hfn)).symm
  refine ⟨by kernel_rfl, fun j t ht => ?_⟩
  rw [Tryd.params11] at ht
  have hall : ∀ t ∈ [22, 9], Tryd.prog.wantsStandIn t = false := by decide +kernel
  exact hall t (by simpa using List.mem_of_getElem? (show [22, 9][j]? = some t by simpa using ht))
end Go.Bk

namespace Go.Proofs.YtjjfnbadmpffpaaDoor
open Go Go.Ev Go.Proofs Go.RowKit Go.Bk
theorem card11 : Rows.BooksBackCardSaid :=
  Claim7.holds_tied_plain_at .later [] _ _ _ _ said11 (fun _ h => by cases h) (by kernel_rfl) (fun _ h => by cases h) booksBack_row_tie rfl ⟨rfl, rfl⟩ (by kernel_rfl) rfl plain11 (by kernel_rfl)
end Go.Proofs.YtjjfnbadmpffpaaDoor
#print axioms Go.Proofs.YtjjfnbadmpffpaaDoor.card11
