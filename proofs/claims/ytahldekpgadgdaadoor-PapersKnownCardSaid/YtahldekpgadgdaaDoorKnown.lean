/- The code of the law of what is found out, as a program of ours has printed them, and that they are the codes of the functions of the program. -/
import Derived.Test.YtahldekpgadgdaaDoorEvThree
import Derived.Test.YtahldekpgadgdaaDoorProg
import Derived.KernelRfl
import Derived.Test.YtahldekpgadgdaaDoorMore
set_option linter.all false

namespace Go.Pp
open Go Go.Ev Go.Proofs Go.RowKit

/-- shackle shacklelaw13.PapersKnown -/
@[simp] def c11_r0 : List AOper := [⟨some 2, none, .boxi (.t 0)⟩,
  ⟨some 4, none, .mov (.bool false)⟩]
@[simp] def c11_r1 : List AOper := [⟨some 16, none, .ldi 2 true (.t 2)⟩,
  ⟨some 17, none, .call 12 [.t 16] []⟩,
  ⟨some 18, none, .not (.t 17)⟩,
  ⟨some 19, none, .mov (.t 18)⟩,
  ⟨some 20, (some (19, false)), .mov (.t 1)⟩,
  ⟨some 21, (some (19, false)), .fld 1 (.t 2)⟩,
  ⟨some 22, (some (19, false)), .ldi 1 false (.t 21)⟩,
  ⟨some 23, (some (19, false)), .len (.t 22)⟩,
  ⟨some 24, (some (19, false)), .bin .sub (.t 23) (.int .i64 1)⟩,
  ⟨some 25, (some (19, false)), .call 42 [.t 20, .int .i64 0, .t 24] []⟩,
  ⟨some 26, (some (19, false)), .not (.t 25)⟩,
  ⟨some 27, none, .pick (.t 19) (.bool true) (.t 26)⟩,
  ⟨some 28, none, .mov (.t 27)⟩,
  ⟨some 29, (some (28, false)), .fld 1 (.t 2)⟩,
  ⟨some 30, (some (28, false)), .ldi 1 false (.t 29)⟩,
  ⟨some 31, (some (28, false)), .mov (.t 1)⟩,
  ⟨some 32, (some (28, false)), .ixi 1 (.t 30) (.t 31)⟩,
  ⟨some 33, (some (28, false)), .ldi 1 false (.t 32)⟩,
  ⟨some 34, (some (28, false)), .bin .neq (.t 33) (.int .i64 3)⟩,
  ⟨some 35, none, .pick (.t 28) (.bool true) (.t 34)⟩]
@[simp] def c11_r2 : List AOper := [⟨some 36, none, .call 13 [] []⟩,
  ⟨some 4, none, .mov (.t 36)⟩]
@[simp] def c11_r3 : List AOper := [⟨some 37, none, .ldi 2 true (.t 2)⟩,
  ⟨some 38, none, .callo 17 [.t 37] [] 38⟩,
  ⟨some 39, none, .ldi 2 true (.t 2)⟩,
  ⟨some 40, none, .callo 17 [.t 39] [] 40⟩,
  ⟨some 5, none, .alo 5 [.str [], .nil 1]⟩,
  ⟨some 6, none, .alo 6 [.str [], .nil 1]⟩,
  ⟨none, none, .sto 5 2 (.t 5) (.t 38)⟩,
  ⟨none, none, .sto 6 2 (.t 6) (.t 40)⟩]
@[simp] def c11_r4 : List AOper := [⟨some 41, none, .fld 1 (.t 5)⟩,
  ⟨some 42, none, .ldo 5 1 false (.t 41)⟩,
  ⟨some 43, none, .mov (.t 1)⟩,
  ⟨some 44, none, .fld 1 (.t 6)⟩,
  ⟨some 45, none, .ldo 6 1 false (.t 44)⟩,
  ⟨some 46, none, .mov (.t 1)⟩,
  ⟨some 47, none, .ixo 38 1 (.t 42) (.t 43)⟩,
  ⟨none, none, .sto 38 1 (.t 47) (.int .i64 1)⟩,
  ⟨some 48, none, .ixo 40 1 (.t 45) (.t 46)⟩,
  ⟨none, none, .sto 40 1 (.t 48) (.int .i64 2)⟩]
@[simp] def c11_r5 : List AOper := [⟨some 50, none, .ldi 2 true (.t 2)⟩,
  ⟨some 51, none, .call 22 [.t 50] []⟩,
  ⟨some 49, none, .mov (.t 51)⟩,
  ⟨some 52, none, .ext (.t 49) 0⟩,
  ⟨some 53, none, .ext (.t 49) 1⟩,
  ⟨some 7, none, .mov (.t 52)⟩,
  ⟨some 8, none, .mov (.t 53)⟩]
@[simp] def c11_r6 : List AOper := [⟨some 9, none, .mov (.int .i64 0)⟩]
@[simp] def c11_r7 : List AOper := [⟨some 54, none, .mov (.t 9)⟩,
  ⟨some 55, none, .mov (.t 7)⟩,
  ⟨some 56, none, .bin .lss (.t 54) (.t 55)⟩]
@[simp] def c11_r9 : List AOper := [⟨some 60, none, .ldi 2 true (.t 2)⟩,
  ⟨some 61, none, .mov (.t 9)⟩,
  ⟨some 62, none, .call 26 [.t 60, .t 61] []⟩,
  ⟨some 59, none, .mov (.t 62)⟩,
  ⟨some 63, none, .ext (.t 59) 0⟩,
  ⟨some 64, none, .ext (.t 59) 1⟩,
  ⟨some 10, none, .mov (.t 63)⟩,
  ⟨some 11, none, .mov (.t 64)⟩]
@[simp] def c11_r10 : List AOper := [⟨some 66, none, .ldo 5 2 true (.t 5)⟩,
  ⟨some 67, none, .mov (.t 9)⟩,
  ⟨some 68, none, .call 26 [.t 66, .t 67] [38]⟩,
  ⟨some 65, none, .mov (.t 68)⟩,
  ⟨some 69, none, .ext (.t 65) 0⟩,
  ⟨some 70, none, .ext (.t 65) 1⟩,
  ⟨some 12, none, .mov (.t 69)⟩,
  ⟨some 13, none, .mov (.t 70)⟩]
@[simp] def c11_r11 : List AOper := [⟨some 72, none, .ldo 6 2 true (.t 6)⟩,
  ⟨some 73, none, .mov (.t 9)⟩,
  ⟨some 74, none, .call 26 [.t 72, .t 73] [40]⟩,
  ⟨some 71, none, .mov (.t 74)⟩,
  ⟨some 75, none, .ext (.t 71) 0⟩,
  ⟨some 76, none, .ext (.t 71) 1⟩,
  ⟨some 14, none, .mov (.t 75)⟩,
  ⟨some 15, none, .mov (.t 76)⟩]
@[simp] def c11_r12 : List AOper := [⟨some 77, none, .mov (.t 11)⟩,
  ⟨some 78, none, .bin .neq (.t 77) (.int .i64 0)⟩,
  ⟨some 79, none, .mov (.t 78)⟩,
  ⟨some 80, (some (79, false)), .mov (.t 13)⟩,
  ⟨some 81, (some (79, false)), .bin .neq (.t 80) (.int .i64 0)⟩,
  ⟨some 82, none, .pick (.t 79) (.bool true) (.t 81)⟩,
  ⟨some 83, none, .mov (.t 82)⟩,
  ⟨some 84, (some (83, false)), .mov (.t 15)⟩,
  ⟨some 85, (some (83, false)), .bin .neq (.t 84) (.int .i64 0)⟩,
  ⟨some 86, none, .pick (.t 83) (.bool true) (.t 85)⟩,
  ⟨some 87, none, .mov (.t 86)⟩,
  ⟨some 88, (some (87, false)), .mov (.t 12)⟩,
  ⟨some 89, (some (87, false)), .bin .lss (.t 88) (.int .i64 0)⟩,
  ⟨some 90, none, .pick (.t 87) (.bool true) (.t 89)⟩,
  ⟨some 91, none, .mov (.t 90)⟩,
  ⟨some 92, (some (91, false)), .mov (.t 14)⟩,
  ⟨some 93, (some (91, false)), .bin .lss (.t 92) (.int .i64 0)⟩,
  ⟨some 94, none, .pick (.t 91) (.bool true) (.t 93)⟩,
  ⟨some 95, none, .mov (.t 94)⟩,
  ⟨some 96, (some (95, false)), .mov (.t 12)⟩,
  ⟨some 97, (some (95, false)), .bin .gtr (.t 96) (.int .i64 64)⟩,
  ⟨some 98, none, .pick (.t 95) (.bool true) (.t 97)⟩,
  ⟨some 99, none, .mov (.t 98)⟩,
  ⟨some 100, (some (99, false)), .mov (.t 14)⟩,
  ⟨some 101, (some (99, false)), .bin .gtr (.t 100) (.int .i64 64)⟩,
  ⟨some 102, none, .pick (.t 99) (.bool true) (.t 101)⟩,
  ⟨some 103, none, .mov (.t 102)⟩,
  ⟨some 104, (some (103, false)), .mov (.t 10)⟩,
  ⟨some 105, (some (103, false)), .mov (.t 12)⟩,
  ⟨some 106, (some (103, false)), .mov (.t 14)⟩,
  ⟨some 107, (some (103, false)), .bin .add (.t 105) (.t 106)⟩,
  ⟨some 108, (some (103, false)), .bin .neq (.t 104) (.t 107)⟩,
  ⟨some 109, none, .pick (.t 103) (.bool true) (.t 108)⟩]
@[simp] def c11_r13 : List AOper := [⟨some 4, none, .mov (.bool false)⟩]
@[simp] def c11_r14 : List AOper := [⟨some 110, none, .ldi 2 true (.t 2)⟩,
  ⟨some 111, none, .ldo 5 2 true (.t 5)⟩,
  ⟨some 112, none, .mov (.t 9)⟩,
  ⟨some 113, none, .call 47 [.t 110, .t 111, .t 112] [38]⟩,
  ⟨some 114, none, .not (.t 113)⟩,
  ⟨some 115, none, .mov (.t 114)⟩,
  ⟨some 116, (some (115, false)), .ldi 2 true (.t 2)⟩,
  ⟨some 117, (some (115, false)), .ldo 6 2 true (.t 6)⟩,
  ⟨some 118, (some (115, false)), .mov (.t 9)⟩,
  ⟨some 119, (some (115, false)), .call 47 [.t 116, .t 117, .t 118] [40]⟩,
  ⟨some 120, (some (115, false)), .not (.t 119)⟩,
  ⟨some 121, none, .pick (.t 115) (.bool true) (.t 120)⟩]
@[simp] def c11_r15 : List AOper := [⟨some 4, none, .mov (.bool false)⟩]
@[simp] def c11_r8 : List AOper := [⟨some 57, none, .mov (.t 9)⟩,
  ⟨some 58, none, .bin .add (.t 57) (.int .i64 1)⟩,
  ⟨some 9, none, .mov (.t 58)⟩]
def c11_b0 : AC := .seq (.seq (.ops c11_r7 false) (.cond (.t 56) (.skip) (.exit 0))) (.seq (.block 1 (.seq (.ops c11_r9 false) (.seq (.ops c11_r10 false) (.seq (.ops c11_r11 false) (.seq (.seq (.ops c11_r12 false) (.cond (.t 109) (.seq (.ops c11_r13 false) (.ret)) (.skip))) (.seq (.ops c11_r14 false) (.cond (.t 121) (.seq (.ops c11_r15 false) (.ret)) (.skip)))))))) (.ops c11_r8 false))
@[simp] def c11_r16 : List AOper := [⟨some 122, none, .ldi 2 true (.t 2)⟩,
  ⟨some 123, none, .ldo 5 2 true (.t 5)⟩,
  ⟨some 124, none, .call 48 [.t 122, .t 123] [38]⟩,
  ⟨some 125, none, .mov (.t 124)⟩,
  ⟨some 126, (some (125, true)), .ldi 2 true (.t 2)⟩,
  ⟨some 127, (some (125, true)), .ldo 6 2 true (.t 6)⟩,
  ⟨some 128, (some (125, true)), .call 48 [.t 126, .t 127] [40]⟩,
  ⟨some 129, none, .pick (.t 125) (.t 128) (.bool false)⟩,
  ⟨some 130, none, .mov (.t 129)⟩,
  ⟨some 131, (some (130, true)), .call 13 [] []⟩,
  ⟨some 132, none, .pick (.t 130) (.t 131) (.bool false)⟩,
  ⟨some 4, none, .mov (.t 132)⟩]
@[simp] def c11 : AFn := ⟨133, [.tmp 4], .seq (.ops c11_r0 false) (.seq (.seq (.ops c11_r1 false) (.cond (.t 35) (.seq (.ops c11_r2 false) (.ret)) (.skip))) (.seq (.ops c11_r3 true) (.seq (.ops c11_r4 true) (.seq (.ops c11_r5 false) (.seq (.seq (.ops c11_r6 false) (.block 0 (.loop c11_b0 [2, 5, 6, 7, 9] [5, 6, 38, 40]))) (.seq (.ops c11_r16 false) (.ret)))))))⟩

theorem c11_ok : FnOk Tryd.prog 11 c11 := ⟨_, Tryd.func11, by kernel_rfl⟩

end Go.Pp

/- Plain facts of a fact that is found out. -/
namespace Go.Pp
open Go Go.Ev Go.Proofs Go.RowKit

theorem getD_set (fs : List Int) (j : Nat) (hj : j < fs.length) (x : Int) (i : Nat) : (fs.set j x).getD i 0 = if i = j then x else fs.getD i 0 := by
  rw [List.getD_eq_getElem?_getD, List.getD_eq_getElem?_getD, List.getElem?_set]
  by_cases h : j = i
  · subst h; simp [hj]
  · simp [h, Ne.symm h]
theorem facts_set {fs : List Int} {j : Nat} {x : Int} (hc : factsOk fs = true) (hx : 1 ≤ x ∧ x ≤ 3) : factsOk (fs.set j x) = true := by
  simp only [factsOk, Bool.and_eq_true, List.all_eq_true, decide_eq_true_eq, List.length_set] at hc ⊢
  refine ⟨fun k hk => ?_, hc.2⟩
  rcases List.mem_or_eq_of_mem_set hk with h | h
  · exact hc.1 k h
  · subst h; exact hx
theorem rs_set {s : W} {fs : List Int} {j : Nat} {x : Int} (he : err s fs = 0) (hx : 1 ≤ x ∧ x ≤ 3) : rs s (fs.set j x) = rs s fs := by
  have h := err_ok he
  unfold rs
  rw [if_pos ⟨facts_set h.1 hx, h.2.1⟩, if_pos ⟨h.1, h.2.1⟩, List.length_set]
theorem err_set {s : W} {fs : List Int} {j : Nat} {x : Int} (he : err s fs = 0) (hx : 1 ≤ x ∧ x ≤ 3) : err s (fs.set j x) = 0 := by
  have h := err_ok he
  unfold err
  rw [if_neg (by rw [facts_set h.1 hx]; simp), rs_set he hx, if_neg h.2.2]
theorem tru_set {fs : List Int} {j t : Nat} {x : Int} (hc : factsOk fs = true) (hj : j < fs.length) (h3 : fs.getD j 0 = 3) (hx : 1 ≤ x ∧ x ≤ 3) (ht : t ∈ tru (fs.set j x)) : t ∈ tru fs := by
  rw [mem_tru (facts_set hc hx)] at ht
  rw [mem_tru hc]
  rw [List.length_set] at ht
  refine ⟨ht.1, fun i hi => ?_⟩
  have := ht.2 i hi
  rw [getD_set fs j hj] at this
  by_cases h : i = j
  · subst h; rw [h3]; omega
  · rw [if_neg h] at this; exact this
theorem okT_set {fs : List Int} {j : Nat} (hj : j < fs.length) (h3 : fs.getD j 0 = 3) (n : Nat) : okT (fs.set j 1) n fs.length = (okT fs n fs.length && n.testBit j) ∧ okT (fs.set j 2) n fs.length = (okT fs n fs.length && !n.testBit j) := by
  have e1 := okT_iff (fs.set j 1) n fs.length
  have e2 := okT_iff (fs.set j 2) n fs.length
  have e0 := okT_iff fs n fs.length
  constructor
  · rw [Bool.eq_iff_iff, e1, Bool.and_eq_true, e0]
    constructor
    · intro h
      refine ⟨fun i hi => ?_, ?_⟩
      · have := h i hi
        rw [getD_set fs j hj] at this
        by_cases e : i = j
        · subst e; rw [h3]; omega
        · rw [if_neg e] at this; exact this
      · have := (h j hj).2
        rw [getD_set fs j hj, if_pos rfl] at this
        cases hb : n.testBit j with
        | true => rfl
        | false => exact absurd rfl (this hb)
    · intro h i hi
      rw [getD_set fs j hj]
      by_cases e : i = j
      · subst e
        rw [if_pos rfl, h.2]
        simp
      · rw [if_neg e]; exact h.1 i hi
  · rw [Bool.eq_iff_iff, e2, Bool.and_eq_true, e0]
    constructor
    · intro h
      refine ⟨fun i hi => ?_, ?_⟩
      · have := h i hi
        rw [getD_set fs j hj] at this
        by_cases e : i = j
        · subst e; rw [h3]; omega
        · rw [if_neg e] at this; exact this
      · have := (h j hj).1
        rw [getD_set fs j hj, if_pos rfl] at this
        cases hb : n.testBit j with
        | false => rfl
        | true => exact absurd rfl (this hb)
    · intro h i hi
      rw [getD_set fs j hj]
      by_cases e : i = j
      · subst e
        have h2 := h.2
        rw [if_pos rfl]
        cases hb : n.testBit i with
        | true => rw [hb] at h2; cases h2
        | false => simp
      · rw [if_neg e]; exact h.1 i hi
theorem countP_split {α : Type} (p q r : α → Bool) : ∀ l : List α, (l.filter q).countP p = (l.filter fun n => q n && r n).countP p + (l.filter fun n => q n && !r n).countP p
  | [] => rfl
  | a :: l => by
    have ih := countP_split p q r l
    simp only [List.filter_cons]
    cases q a <;> cases r a <;> simp [ih, List.countP_cons] <;> omega
theorem cnt_set {fs : List Int} {j : Nat} (hc : factsOk fs = true) (hj : j < fs.length) (h3 : fs.getD j 0 = 3) (r : Rd) : cnt fs r = cnt (fs.set j 1) r + cnt (fs.set j 2) r := by
  unfold cnt
  rw [tru_eq fs hc, tru_eq _ (facts_set hc (by omega)), tru_eq _ (facts_set hc (by omega))]
  unfold truths truthsN
  simp only [List.length_set]
  rw [countP_split (val r) (fun n => okT fs n fs.length) (fun n => n.testBit j)]
  congr 1
  · congr 1
    exact List.filter_congr fun n _ => (okT_set hj h3 n).1.symm
  · congr 1
    exact List.filter_congr fun n _ => (okT_set hj h3 n).2.symm
theorem means_set {fs fs' : List Int} {r : Rd} (hsub : ∀ t ∈ tru fs', t ∈ tru fs) (h : meansOf fs r ≠ 3) : meansOf fs' r = meansOf fs r := by
  have h0 := means_range fs r
  have hp := tru_pos fs'
  rcases (by omega : meansOf fs r = 1 ∨ meansOf fs r = 2) with e | e
  · rw [e]
    rw [means_one] at e ⊢
    unfold cnt at e ⊢
    rw [List.countP_eq_length] at e ⊢
    exact fun t ht => e t (hsub t ht)
  · rw [e]
    rw [means_two] at e ⊢
    unfold cnt at e ⊢
    rw [List.countP_eq_zero] at e ⊢
    exact fun t ht => e t (hsub t ht)
theorem court_set {fs fs' : List Int} {L : List Rd} (hsub : ∀ t ∈ tru fs', t ∈ tru fs) (hne : L ≠ []) (h : courtOf fs L ≠ 3) : courtOf fs' L = courtOf fs L := by
  have hall := court_all h
  cases L with
  | nil => exact absurd rfl hne
  | cons a L =>
    have h1 : ∀ r ∈ a :: L, meansOf fs' r = courtOf fs (a :: L) := fun r hr => by
      rw [means_set hsub (by rw [hall r hr]; exact h), hall r hr]
    have h2 := h1 a (by simp)
    rw [← h2]
    simp only [courtOf]
    rw [if_pos]
    rw [List.all_eq_true]
    intro r hr
    rw [h1 r hr, h2]
    simp
theorem clear_set {s : W} {fs fs' : List Int} (hrs : rs s fs' = rs s fs) (hsub : ∀ t ∈ tru fs', t ∈ tru fs) (h : doubtAt s fs = none) : doubtAt s fs' = none := by
  unfold doubtAt at *
  rw [List.find?_eq_none] at *
  intro t ht
  rw [hrs]
  exact h t (hsub t ht)
theorem matters_set {s : W} {fs : List Int} {j : Nat} {x : Int} (he : err s fs = 0) (hj : j < fs.length) (h3 : fs.getD j 0 = 3) (hx : 1 ≤ x ∧ x ≤ 2) :
    (∀ i ∈ mattersL s (fs.set j x), i ∈ mattersL s fs) ∧ (mattersL s (fs.set j x)).length ≤ (mattersL s fs).length := by
  have hrs := rs_set (j := j) (x := x) he (by omega)
  have hsub : ∀ t ∈ tru (fs.set j x), t ∈ tru fs := fun t ht => tru_set (err_ok he).1 hj h3 (by omega) ht
  have key : ∀ i, (decide ((fs.set j x).getD i 0 = 3) && mattersAt (fs.set j x) (rs s fs) i) = true → (decide (fs.getD i 0 = 3) && mattersAt fs (rs s fs) i) = true := by
    intro i hi
    simp only [Bool.and_eq_true, decide_eq_true_eq] at hi ⊢
    rw [getD_set fs j hj] at hi
    have hij : i ≠ j := fun e => by rw [if_pos e] at hi; omega
    rw [if_neg hij] at hi
    refine ⟨hi.1, ?_⟩
    have := hi.2
    unfold mattersAt at this ⊢
    rw [List.any_eq_true] at this ⊢
    obtain ⟨t, ht, h⟩ := this
    exact ⟨t, hsub t ht, h⟩
  unfold mattersL mattersN
  rw [hrs, List.length_set]
  refine ⟨fun i hi => ?_, ?_⟩
  · rw [List.mem_filter] at hi ⊢
    exact ⟨hi.1, key i hi.2⟩
  · rw [← List.countP_eq_length_filter, ← List.countP_eq_length_filter]
    exact List.countP_mono_left fun i _ h => key i h
end Go.Pp

/- The law of what is found out. -/
namespace Go.Pp
open Go Go.Ev Go.Proofs Go.RowKit
set_option maxRecDepth 8000

section
variable {K : World → Prop} (hK : ∀ w w', K w → Below w.heap.size w w' → K w')
include hK
theorem goodo17 (s : W) (fs : List Int) (hf : fs.length * 8 ≤ 140737488355328) : GoodO Tryd.prog K 17 [paperV s fs] (.agg [.iv (.str s), .aref 0 fs.length]) 3 1 (fs.map fun n => [.int .i64 n]) 0 := by
  refine goodo_of_wp (.cell 2 2 true) 5 hK c17_ok (by simp) rfl ?_
  simp [rowO_emb]
  refine ⟨⟨by omega, by omega⟩, ?_⟩
  simp [emb]
variable (hS : ∀ s : W, s.length ≤ 1000 → Good Tryd.prog K 63 [.str s, .str [32]] (strs (spl s)))
include hS
theorem good47 (s s' : W) (fs fs' : List Int) (n : Int) (r r' : Rd) (hs : fit s) (hs' : fit s') (h1 : rdAt s fs n = some r) (h2 : rdAt s' fs' n = some r') (hm : meansOf fs r = 3 ∨ meansOf fs' r' = meansOf fs r) :
    Good Tryd.prog K 47 [paperV s fs, paperV s' fs', .int .i64 n] (.bool true) := by
  have g1 := good28 hK hS s fs n hs
  have g2 := good28 hK hS s' fs' n hs'
  have r1 := means_range fs r
  have r2 := means_range fs' r'
  have g3 := good36 hK (meansOf fs r)
  have g4 := good36 hK (meansOf fs' r')
  simp [r1] at g3
  simp [r2] at g4
  simp only [meansV, h1, h2, oneE_some h1, oneE_some h2] at g1 g2
  generalize meansOf fs r = a at *
  generalize meansOf fs' r' = b at *
  refine good_of_wp hK c47_ok (by simp) ?_
  simp
  refine callK_of g1 (by simp) ?_
  simp
  refine callK_of g2 (by simp) ?_
  simp
  refine callK_of g3 (by simp) ?_
  simp
  refine callK_of g4 (by simp) ?_
  by_cases h : a = 3
  · simp [h]
  · have e := hm.resolve_left h
    simp [h, e]
theorem good48 (s s' : W) (fs fs' : List Int) (hs : fit s) (hs' : fit s') (h1 : err s fs = 0) (h2 : err s' fs' = 0) (hc : courtOf fs (rs s fs) = 3 ∨ courtOf fs' (rs s' fs') = courtOf fs (rs s fs))
    (hd : doubtAt s fs = none → doubtAt s' fs' = none) (hm : (∀ i ∈ mattersL s' fs', i ∈ mattersL s fs) ∧ (mattersL s' fs').length ≤ (mattersL s fs).length) :
    Good Tryd.prog K 48 [paperV s fs, paperV s' fs'] (.bool true) := by
  have g1 := good35 hK hS s fs hs
  have g2 := good35 hK hS s' fs' hs'
  have g3 := good39 hK hS s fs hs
  have g4 := good39 hK hS s' fs' hs'
  have g5 := good40 hK hS s fs hs
  have g6 := good40 hK hS s' fs' hs'
  have r1 := court_range (fs := fs) (err_ok h1).2.2
  have g7 := good36 hK (courtOf fs (rs s fs))
  simp [r1] at g7
  have hl : (mattersL s fs).length ≤ 6 := by
    have a := mattersN_len fs (rs s fs) fs.length
    have b := factsOk_len (err_ok h1).1
    unfold mattersL
    omega
  have g8 := good62 hK ((mattersL s' fs').map fun n : Nat => (n : Int)) ((mattersL s fs).map fun n : Nat => (n : Int))
  have e8 : (((mattersL s' fs').map fun n : Nat => (n : Int)).all (fun x => decide (x ∈ (mattersL s fs).map fun n : Nat => (n : Int))) && decide (((mattersL s' fs').map fun n : Nat => (n : Int)).length ≤ ((mattersL s fs).map fun n : Nat => (n : Int)).length)) = true := by
    simp
    exact ⟨fun i hi => ⟨i, hm.1 i hi, rfl⟩, hm.2⟩
  rw [e8, ← natsI_eq, ← natsI_eq] at g8
  have hn : ((mattersL s fs).length : Int) ≤ 40 := by omega
  have hdc : (doubtAt s fs).isNone = false ∨ ((doubtAt s fs).isNone = true ∧ (doubtAt s' fs').isNone = true) := by
    cases h : doubtAt s fs with
    | none => exact .inr ⟨rfl, by rw [hd h]; rfl⟩
    | some t => exact .inl rfl
  simp only [courtV, clearV, mattersV, h1, h2] at g1 g2 g3 g4 g5 g6
  generalize courtOf fs (rs s fs) = a at *
  generalize courtOf fs' (rs s' fs') = b at *
  generalize mattersL s fs = M at *
  generalize mattersL s' fs' = M' at *
  generalize (doubtAt s fs).isNone = d at *
  generalize (doubtAt s' fs').isNone = d' at *
  refine good_of_wp hK c48_ok (by simp) ?_
  simp
  refine callK_of g1 (by simp) ?_
  simp
  refine callK_of g2 (by simp) ?_
  simp
  refine callK_of g3 (by simp) ?_
  simp
  refine callK_of g4 (by simp) ?_
  simp
  refine callK_of g5 (by simp) ?_
  simp
  refine callK_of g6 (by simp) ?_
  simp
  refine callK_of g7 (by simp) ?_
  have fin : ∀ (x : Prop), a = 3 ∨ (¬ a = 3 ∧ b = a) := by
    intro _
    by_cases h : a = 3
    · exact .inl h
    · exact .inr ⟨h, hc.resolve_left h⟩
  rcases fin True with h | ⟨h, e⟩ <;> rcases hdc with rfl | ⟨rfl, rfl⟩
  · simp [h, hn]
    intro _
    refine callK_of g8 (by simp) ?_
    simp
  · simp [h, hn]
    intro _
    refine callK_of g8 (by simp) ?_
    simp
  · simp [h, e, hn]
    intro _
    refine callK_of g8 (by simp) ?_
    simp
  · simp [h, e, hn]
    intro _
    refine callK_of g8 (by simp) ?_
    simp
theorem law11 (s : W) (fs : List Int) (f : Int) : Good Tryd.prog K 11 [paperV s fs, .int .i64 f] (.bool true) := by
  have g13 := good13 hK hS
  refine good_of_wp hK c11_ok (by simp) ?_
  simp
  refine callK_of (good12 hK s fs) (by simp) ?_
  cases hr : readyB s fs with
  | false =>
    simp
    refine callK_of g13 (by simp) ?_
    simp
  | true =>
    have hr' := hr
    simp [readyB] at hr'
    obtain ⟨hf, he⟩ := hr'
    have fit := fit_of_far hf
    have hc := (err_ok he).1
    have h6 := factsOk_len hc
    have g42 := good42 hK f 0 ((fs.length : Int) - 1)
    simp
    refine fun _ => ⟨by omega, ?_⟩
    refine callK_of g42 (by simp) ?_
    by_cases hin : 0 ≤ f ∧ f ≤ (fs.length : Int) - 1
    · obtain ⟨j, rfl⟩ : ∃ j : Nat, f = j := ⟨f.toNat, by omega⟩
      have hj : j < fs.length := by omega
      have hj' : (j : Int) ≤ (fs.length : Int) - 1 := by omega
      by_cases h3 : fs[j] = 3
      · have e1 : err s (fs.set j 1) = 0 := err_set he (by omega)
        have e2 : err s (fs.set j 2) = 0 := err_set he (by omega)
        have r1 : rs s (fs.set j 1) = rs s fs := rs_set he (by omega)
        have r2 : rs s (fs.set j 2) = rs s fs := rs_set he (by omega)
        have h3' : fs.getD j 0 = 3 := by simp [hj, h3]
        have s1 : ∀ t ∈ tru (fs.set j 1), t ∈ tru fs := fun t ht => tru_set hc hj h3' (by omega) ht
        have s2 : ∀ t ∈ tru (fs.set j 2), t ∈ tru fs := fun t ht => tru_set hc hj h3' (by omega) ht
        have hne := (err_ok he).2.2
        have hcn := cnt_set (fs := fs) hc hj h3'
        have t6 := tru_len h6
        have c6 : ∀ r, cnt fs r ≤ 64 := fun r => Nat.le_trans (cnt_le fs r) t6
        have m1 : ∀ r, meansOf fs r = 3 ∨ meansOf (fs.set j 1) r = meansOf fs r := fun r => by
          by_cases h : meansOf fs r = 3
          · exact .inl h
          · exact .inr (means_set s1 h)
        have m2 : ∀ r, meansOf fs r = 3 ∨ meansOf (fs.set j 2) r = meansOf fs r := fun r => by
          by_cases h : meansOf fs r = 3
          · exact .inl h
          · exact .inr (means_set s2 h)
        have k1 := good48 hK hS s s fs (fs.set j 1) fit fit he e1 (by
          by_cases h : courtOf fs (rs s fs) = 3
          · exact .inl h
          · exact .inr (by rw [r1]; exact court_set s1 hne h)) (fun h => clear_set r1 s1 h) (matters_set he hj h3' (by omega))
        have k2 := good48 hK hS s s fs (fs.set j 2) fit fit he e2 (by
          by_cases h : courtOf fs (rs s fs) = 3
          · exact .inl h
          · exact .inr (by rw [r2]; exact court_set s2 hne h)) (fun h => clear_set r2 s2 h) (matters_set he hj h3' (by omega))
        have at0 : ∀ (i : Nat) (hi : i < (rs s fs).length), rdAt s fs (i : Nat) = some (rs s fs)[i] ∧ rdAt s (fs.set j 1) (i : Nat) = some (rs s fs)[i] ∧ rdAt s (fs.set j 2) (i : Nat) = some (rs s fs)[i] := by
          intro i hi
          simp [rdAt, hi, r1, r2]
        have cnt26 : ∀ (gs : List Int) (i : Nat) (r : Rd), rdAt s gs (i : Nat) = some r → Good Tryd.prog K 26 [paperV s gs, .int .i64 (i : Nat)] (.tup [.int .i64 (cnt gs r : Nat), .int .i64 0]) := by
          intro gs i r hat
          have := good26 hK hS s gs (i : Nat) fit
          simpa [countV, hat, oneE_some hat] using this
        have st47 := fun (i : Nat) (hi : i < (rs s fs).length) => good47 hK hS s s fs (fs.set j 1) (i : Nat) _ _ fit fit (at0 i hi).1 (at0 i hi).2.1 (m1 _)
        have st47' := fun (i : Nat) (hi : i < (rs s fs).length) => good47 hK hS s s fs (fs.set j 2) (i : Nat) _ _ fit fit (at0 i hi).1 (at0 i hi).2.2 (m2 _)
        have ey : ∀ x : Int, (fs.map fun n => [IV.int .i64 n]).set j [.int .i64 x] = (fs.set j x).map fun n => [IV.int .i64 n] := fun x => by simp [List.map_set]
        have ly : ∀ x : Int, (fs.set j x).length = fs.length := fun x => by simp
        have l1 := ly 1
        have l2 := ly 2
        have ey1 := ey 1
        have ey2 := ey 2
        clear ey ly
        generalize hY1 : fs.set j 1 = Y1 at *
        generalize hY2 : fs.set j 2 = Y2 at *
        simp [hj, hj', h3]
        refine callO_emb (goodo17 hK s fs (by omega)) (by simp) ?_
        simp
        refine callO_emb (goodo17 hK s fs (by omega)) (by simp) ?_
        simp [hj, ey1, ey2]
        refine callK_of (good22 hK s fs fit) (by simp) ?_
        simp
        have hl := rs_len s fs
        have tk : ∀ Y : List Int, Y.length = fs.length → List.take fs.length (Y.map fun n => [IV.int .i64 n]) = Y.map fun n => [IV.int .i64 n] := fun Y h => by rw [List.take_of_length_le]; simp [h]
        have tk1 := tk Y1 l1
        have tk2 := tk Y2 l2
        generalize rs s fs = L at *
        refine loop_up (fun i => [(2, .iv (.ptr [.str s, ints fs])), (5, .loc 5 0), (6, .loc 6 0), (7, .iv (.int .i64 (L.length : Nat))), (9, .iv (.int .i64 (i : Nat)))]) (fun _ => [(5, AO.box [.iv (.str s), .aref 38 fs.length]), (6, AO.box [.iv (.str s), .aref 40 fs.length]), (38, AO.arr 3 1 (emb (Y1.map fun n => [.int .i64 n])) fs.length), (40, AO.arr 3 1 (emb (Y2.map fun n => [.int .i64 n])) fs.length)]) L.length ?_ ?_
        · rw [LoopAt_enter c11_b0.eq_1]
          simp [l1, tk1]
          refine callK_of k1 (by simp) ?_
          simp [l2, tk2]
          refine callK_of k2 (by simp) ?_
          simp
          refine callK_of g13 (by simp) ?_
          simp
        · intro i hi ih
          obtain ⟨a0, a1, a2⟩ := at0 i hi
          have q0 := cnt26 fs i _ a0
          have q1 := cnt26 Y1 i _ a1
          have q2 := cnt26 Y2 i _ a2
          have hcn := hcn L[i]
          have c6 := c6 L[i]
          have st1 := st47 i hi
          have st2 := st47' i hi
          generalize cnt fs L[i] = x0 at *
          generalize cnt Y1 L[i] = x1 at *
          generalize cnt Y2 L[i] = x2 at *
          have n1 : ¬ (x1 : Int) < 0 := by omega
          have n2 : ¬ (x2 : Int) < 0 := by omega
          have n3 : ¬ (64 : Int) < x1 := by omega
          have n4 : ¬ (64 : Int) < x2 := by omega
          have n5 : (x0 : Int) = (x1 : Int) + x2 := by omega
          rw [LoopAt_enter c11_b0.eq_1]
          simp [hi]
          refine callK_of q0 (by simp) ?_
          simp [l1, tk1]
          refine callK_of q1 (by simp) ?_
          simp [l2, tk2]
          refine callK_of q2 (by simp) ?_
          simp [n1, n2, n3, n4, n5, l1, tk1]
          refine ⟨by omega, ?_⟩
          refine callK_of st1 (by simp) ?_
          simp [l2, tk2]
          refine callK_of st2 (by simp) ?_
          simp at ih ⊢
          exact ⟨by omega, ih⟩
      · simp [hj, hj', h3]
        refine callK_of g13 (by simp) ?_
        simp
    · have : (decide (0 ≤ f) && decide (f ≤ (fs.length : Int) - 1)) = false := by
        simp
        omega
      simp [this]
      refine callK_of g13 (by simp) ?_
      simp
end
end Go.Pp
