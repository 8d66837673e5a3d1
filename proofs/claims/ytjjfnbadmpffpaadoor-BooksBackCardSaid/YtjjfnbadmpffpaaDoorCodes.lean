/- The codes of the functions, as a program of ours has printed them, and that they are the codes of the functions of the program. -/
import Derived.Test.YtjjfnbadmpffpaaDoorEvFour
import Derived.Test.YtjjfnbadmpffpaaDoorProg
import Derived.KernelRfl
set_option linter.all false

namespace Go.Bk
open Go Go.Ev Go.Proofs Go.RowKit

/-- shackle shacklelaw14.BooksWrite -/
@[simp] def c3_r0 : List AOper := [⟨some 2, none, .mov (.bool false)⟩]
@[simp] def c3_r1 : List AOper := [⟨some 8, none, .mov (.t 0)⟩,
  ⟨some 9, none, .call 12 [.t 8] []⟩]
@[simp] def c3_r2 : List AOper := [⟨some 10, none, .call 13 [] []⟩,
  ⟨some 2, none, .mov (.t 10)⟩]
@[simp] def c3_r3 : List AOper := [⟨some 11, none, .bso 11 9 1 []⟩,
  ⟨some 12, none, .mov (.t 0)⟩,
  ⟨some 13, none, .app 11 9 1 16 (.t 11) (.t 12)⟩,
  ⟨some 3, none, .mov (.t 13)⟩]
@[simp] def c3_r4 : List AOper := [⟨some 15, none, .mov (.t 3)⟩,
  ⟨some 16, none, .call 14 [.t 15] [11]⟩,
  ⟨some 14, none, .mov (.t 16)⟩,
  ⟨some 17, none, .ext (.t 14) 0⟩,
  ⟨some 18, none, .ext (.t 14) 1⟩,
  ⟨some 4, none, .mov (.t 17)⟩,
  ⟨some 5, none, .mov (.t 18)⟩]
@[simp] def c3_r5 : List AOper := [⟨some 20, none, .mov (.t 0)⟩,
  ⟨some 21, none, .call 15 [.t 20] []⟩,
  ⟨some 19, none, .mov (.t 21)⟩,
  ⟨some 22, none, .ext (.t 19) 0⟩,
  ⟨some 23, none, .ext (.t 19) 1⟩,
  ⟨some 6, none, .mov (.t 22)⟩,
  ⟨some 7, none, .mov (.t 23)⟩]
@[simp] def c3_r6 : List AOper := [⟨some 24, none, .mov (.t 4)⟩,
  ⟨some 25, none, .mov (.t 6)⟩,
  ⟨some 26, none, .bin .eql (.t 24) (.t 25)⟩,
  ⟨some 27, none, .mov (.t 26)⟩,
  ⟨some 28, (some (27, true)), .mov (.t 5)⟩,
  ⟨some 29, (some (27, true)), .mov (.t 7)⟩,
  ⟨some 30, (some (27, true)), .bin .eql (.t 28) (.t 29)⟩,
  ⟨some 31, none, .pick (.t 27) (.t 30) (.bool false)⟩,
  ⟨some 32, none, .mov (.t 31)⟩,
  ⟨some 33, (some (32, true)), .mov (.t 3)⟩,
  ⟨some 34, (some (32, true)), .mov (.t 0)⟩,
  ⟨some 35, (some (32, true)), .call 16 [.t 33, .t 34] [11]⟩,
  ⟨some 36, none, .pick (.t 32) (.t 35) (.bool false)⟩,
  ⟨some 37, none, .mov (.t 36)⟩,
  ⟨some 38, (some (37, true)), .call 13 [] []⟩,
  ⟨some 39, none, .pick (.t 37) (.t 38) (.bool false)⟩,
  ⟨some 2, none, .mov (.t 39)⟩]
@[simp] def c3 : AFn := ⟨40, [.tmp 2], .seq (.ops c3_r0 false) (.seq (.seq (.ops c3_r1 false) (.cond (.t 9) (.seq (.ops c3_r2 false) (.ret)) (.skip))) (.seq (.ops c3_r3 false) (.seq (.ops c3_r4 false) (.seq (.ops c3_r5 false) (.seq (.ops c3_r6 false) (.ret))))))⟩

/-- shackle shacklelaw14.BooksByte -/
@[simp] def c4_r0 : List AOper := [⟨some 4, none, .mov (.bool false)⟩]
@[simp] def c4_r1 : List AOper := [⟨some 18, none, .mov (.t 0)⟩,
  ⟨some 19, none, .call 17 [.t 18] []⟩,
  ⟨some 20, none, .not (.t 19)⟩]
@[simp] def c4_r2 : List AOper := [⟨some 21, none, .call 13 [] []⟩,
  ⟨some 4, none, .mov (.t 21)⟩]
@[simp] def c4_r3 : List AOper := [⟨some 23, none, .mov (.t 0)⟩,
  ⟨some 24, none, .call 14 [.t 23] []⟩,
  ⟨some 22, none, .mov (.t 24)⟩,
  ⟨some 25, none, .ext (.t 22) 0⟩,
  ⟨some 26, none, .ext (.t 22) 1⟩,
  ⟨some 5, none, .mov (.t 25)⟩,
  ⟨some 6, none, .mov (.t 26)⟩]
@[simp] def c4_r4 : List AOper := [⟨some 27, none, .mov (.t 6)⟩,
  ⟨some 28, none, .bin .neq (.t 27) (.int .i64 0)⟩,
  ⟨some 29, none, .mov (.t 28)⟩,
  ⟨some 30, (some (29, false)), .mov (.t 5)⟩,
  ⟨some 31, (some (29, false)), .bsl 1 [.t 30]⟩,
  ⟨some 32, (some (29, false)), .call 12 [.t 31] []⟩,
  ⟨some 33, none, .pick (.t 29) (.bool true) (.t 32)⟩]
@[simp] def c4_r5 : List AOper := [⟨some 4, none, .mov (.bool false)⟩]
@[simp] def c4_r6 : List AOper := [⟨some 35, none, .mov (.t 5)⟩,
  ⟨some 36, none, .mov (.t 1)⟩,
  ⟨some 37, none, .call 18 [.t 35, .t 36] []⟩,
  ⟨some 34, none, .mov (.t 37)⟩,
  ⟨some 38, none, .ext (.t 34) 0⟩,
  ⟨some 39, none, .ext (.t 34) 1⟩,
  ⟨some 40, none, .ext (.t 34) 2⟩,
  ⟨some 41, none, .ext (.t 34) 3⟩,
  ⟨some 7, none, .mov (.t 38)⟩,
  ⟨some 8, none, .mov (.t 39)⟩,
  ⟨some 9, none, .mov (.t 40)⟩,
  ⟨some 10, none, .mov (.t 41)⟩]
@[simp] def c4_r7 : List AOper := [⟨some 42, none, .mov (.t 10)⟩,
  ⟨some 43, none, .not (.t 42)⟩,
  ⟨some 44, none, .mov (.t 43)⟩,
  ⟨some 45, (some (44, false)), .mov (.t 7)⟩,
  ⟨some 46, (some (44, false)), .len (.t 45)⟩,
  ⟨some 47, (some (44, false)), .mov (.t 0)⟩,
  ⟨some 48, (some (44, false)), .len (.t 47)⟩,
  ⟨some 49, (some (44, false)), .bin .add (.t 48) (.int .i64 1)⟩,
  ⟨some 50, (some (44, false)), .bin .neq (.t 46) (.t 49)⟩,
  ⟨some 51, none, .pick (.t 44) (.bool true) (.t 50)⟩]
@[simp] def c4_r8 : List AOper := [⟨some 52, none, .mov (.t 1)⟩,
  ⟨some 53, none, .len (.t 52)⟩,
  ⟨some 54, none, .bin .gtr (.t 53) (.int .i64 200)⟩,
  ⟨some 55, none, .mov (.t 54)⟩,
  ⟨some 56, (some (55, true)), .call 13 [] []⟩,
  ⟨some 57, none, .pick (.t 55) (.t 56) (.bool false)⟩,
  ⟨some 4, none, .mov (.t 57)⟩]
@[simp] def c4_r9 : List AOper := [⟨some 11, none, .nilo 11 3 1⟩]
@[simp] def c4_r10 : List AOper := [⟨some 12, none, .mov (.int .i64 0)⟩]
@[simp] def c4_r11 : List AOper := [⟨some 58, none, .mov (.t 12)⟩,
  ⟨some 59, none, .mov (.t 7)⟩,
  ⟨some 60, none, .len (.t 59)⟩,
  ⟨some 61, none, .bin .lss (.t 58) (.t 60)⟩]
@[simp] def c4_r13 : List AOper := [⟨some 64, none, .mov (.t 8)⟩,
  ⟨some 65, none, .mov (.t 12)⟩,
  ⟨some 66, none, .ixi 1 (.t 64) (.t 65)⟩,
  ⟨some 67, none, .ldi 1 false (.t 66)⟩,
  ⟨some 68, none, .bin .gtr (.t 67) (.int .i64 1)⟩,
  ⟨some 69, none, .mov (.t 68)⟩,
  ⟨some 70, (some (69, false)), .mov (.t 9)⟩,
  ⟨some 71, (some (69, false)), .mov (.t 12)⟩,
  ⟨some 72, (some (69, false)), .ixi 1 (.t 70) (.t 71)⟩,
  ⟨some 73, (some (69, false)), .ldi 1 false (.t 72)⟩,
  ⟨some 74, (some (69, false)), .bin .gtr (.t 73) (.int .i64 0)⟩,
  ⟨some 75, none, .pick (.t 69) (.bool true) (.t 74)⟩]
@[simp] def c4_r14 : List AOper := [⟨some 76, none, .call 13 [] []⟩,
  ⟨some 4, none, .mov (.t 76)⟩]
@[simp] def c4_r15 : List AOper := [⟨some 77, none, .mov (.t 8)⟩,
  ⟨some 78, none, .mov (.t 12)⟩,
  ⟨some 79, none, .ixi 1 (.t 77) (.t 78)⟩,
  ⟨some 80, none, .ldi 1 false (.t 79)⟩,
  ⟨some 81, none, .bin .eql (.t 80) (.int .i64 1)⟩,
  ⟨some 82, none, .mov (.t 81)⟩,
  ⟨some 83, (some (82, true)), .mov (.t 12)⟩,
  ⟨some 84, (some (82, true)), .mov (.t 0)⟩,
  ⟨some 85, (some (82, true)), .len (.t 84)⟩,
  ⟨some 86, (some (82, true)), .bin .lss (.t 83) (.t 85)⟩,
  ⟨some 87, none, .pick (.t 82) (.t 86) (.bool false)⟩]
@[simp] def c4_r16 : List AOper := [⟨some 88, none, .mov (.t 11)⟩,
  ⟨some 89, none, .mov (.t 12)⟩,
  ⟨some 90, none, .bsl 1 [.t 89]⟩,
  ⟨some 91, none, .app 11 3 1 8 (.t 88) (.t 90)⟩,
  ⟨some 11, none, .mov (.t 91)⟩]
@[simp] def c4_r12 : List AOper := [⟨some 62, none, .mov (.t 12)⟩,
  ⟨some 63, none, .bin .add (.t 62) (.int .i64 1)⟩,
  ⟨some 12, none, .mov (.t 63)⟩]
def c4_b0 : AC := .seq (.seq (.ops c4_r11 false) (.cond (.t 61) (.skip) (.exit 0))) (.seq (.block 1 (.seq (.seq (.ops c4_r13 false) (.cond (.t 75) (.seq (.ops c4_r14 false) (.ret)) (.skip))) (.seq (.ops c4_r15 false) (.cond (.t 87) (.ops c4_r16 false) (.skip))))) (.ops c4_r12 false))
@[simp] def c4_r17 : List AOper := [⟨some 93, none, .mov (.t 7)⟩,
  ⟨some 94, none, .mov (.t 9)⟩,
  ⟨some 95, none, .call 20 [.t 93, .t 94] []⟩,
  ⟨some 96, none, .call 19 [.t 95] []⟩,
  ⟨some 92, none, .mov (.t 96)⟩,
  ⟨some 97, none, .ext (.t 92) 0⟩,
  ⟨some 98, none, .ext (.t 92) 1⟩,
  ⟨some 99, none, .ext (.t 92) 2⟩,
  ⟨some 13, none, .mov (.t 97)⟩,
  ⟨some 14, none, .mov (.t 98)⟩,
  ⟨some 15, none, .mov (.t 99)⟩]
@[simp] def c4_r18 : List AOper := [⟨some 101, none, .mov (.t 7)⟩,
  ⟨some 102, none, .mov (.t 9)⟩,
  ⟨some 103, none, .call 20 [.t 101, .t 102] []⟩,
  ⟨some 104, none, .call 21 [.t 103] []⟩,
  ⟨some 100, none, .mov (.t 104)⟩,
  ⟨some 105, none, .ext (.t 100) 0⟩,
  ⟨some 106, none, .ext (.t 100) 1⟩,
  ⟨some 16, none, .mov (.t 105)⟩,
  ⟨some 17, none, .mov (.t 106)⟩]
@[simp] def c4_r19 : List AOper := [⟨some 107, none, .mov (.t 15)⟩,
  ⟨some 108, none, .bin .eql (.t 107) (.int .i64 0)⟩,
  ⟨some 109, none, .mov (.t 108)⟩,
  ⟨some 110, (some (109, true)), .mov (.t 17)⟩,
  ⟨some 111, (some (109, true)), .bin .eql (.t 110) (.int .i64 0)⟩,
  ⟨some 112, none, .pick (.t 109) (.t 111) (.bool false)⟩,
  ⟨some 113, none, .mov (.t 112)⟩,
  ⟨some 114, (some (113, true)), .mov (.t 13)⟩,
  ⟨some 115, (some (113, true)), .mov (.t 0)⟩,
  ⟨some 116, (some (113, true)), .call 16 [.t 114, .t 115] []⟩,
  ⟨some 117, none, .pick (.t 113) (.t 116) (.bool false)⟩,
  ⟨some 118, none, .mov (.t 117)⟩,
  ⟨some 119, (some (118, true)), .mov (.t 14)⟩,
  ⟨some 120, (some (118, true)), .mov (.t 11)⟩,
  ⟨some 121, (some (118, true)), .call 22 [.t 119, .t 120] [11]⟩,
  ⟨some 122, none, .pick (.t 118) (.t 121) (.bool false)⟩,
  ⟨some 123, none, .mov (.t 122)⟩,
  ⟨some 124, (some (123, true)), .mov (.t 16)⟩,
  ⟨some 125, (some (123, true)), .len (.t 124)⟩,
  ⟨some 126, (some (123, true)), .bin .eql (.t 125) (.int .i64 0)⟩,
  ⟨some 127, none, .pick (.t 123) (.t 126) (.bool false)⟩,
  ⟨some 128, none, .mov (.t 127)⟩,
  ⟨some 129, (some (128, true)), .call 13 [] []⟩,
  ⟨some 130, none, .pick (.t 128) (.t 129) (.bool false)⟩,
  ⟨some 4, none, .mov (.t 130)⟩]
@[simp] def c4 : AFn := ⟨131, [.tmp 4], .seq (.ops c4_r0 false) (.seq (.seq (.ops c4_r1 false) (.cond (.t 20) (.seq (.ops c4_r2 false) (.ret)) (.skip))) (.seq (.ops c4_r3 false) (.seq (.seq (.ops c4_r4 false) (.cond (.t 33) (.seq (.ops c4_r5 false) (.ret)) (.skip))) (.seq (.ops c4_r6 false) (.seq (.seq (.ops c4_r7 false) (.cond (.t 51) (.seq (.ops c4_r8 false) (.ret)) (.skip))) (.seq (.ops c4_r9 false) (.seq (.seq (.ops c4_r10 false) (.block 0 (.loop c4_b0 [0, 7, 8, 9, 11, 12] [11]))) (.seq (.ops c4_r17 false) (.seq (.ops c4_r18 false) (.seq (.ops c4_r19 false) (.ret)))))))))))⟩

/-- shackle shacklelaw14.BooksOrder -/
@[simp] def c5_r0 : List AOper := [⟨some 3, none, .boxi (.t 1)⟩,
  ⟨some 4, none, .mov (.bool false)⟩]
@[simp] def c5_r1 : List AOper := [⟨some 20, none, .mov (.t 0)⟩,
  ⟨some 21, none, .call 17 [.t 20] []⟩,
  ⟨some 22, none, .not (.t 21)⟩,
  ⟨some 23, none, .mov (.t 22)⟩,
  ⟨some 24, (some (23, false)), .fld 0 (.t 3)⟩,
  ⟨some 25, (some (23, false)), .ldi 1 false (.t 24)⟩,
  ⟨some 26, (some (23, false)), .bin .lss (.t 25) (.int .i64 0)⟩,
  ⟨some 27, none, .pick (.t 23) (.bool true) (.t 26)⟩,
  ⟨some 28, none, .mov (.t 27)⟩,
  ⟨some 29, (some (28, false)), .fld 0 (.t 3)⟩,
  ⟨some 30, (some (28, false)), .ldi 1 false (.t 29)⟩,
  ⟨some 31, (some (28, false)), .bin .gtr (.t 30) (.int .i64 1000)⟩,
  ⟨some 32, none, .pick (.t 28) (.bool true) (.t 31)⟩,
  ⟨some 33, none, .mov (.t 32)⟩,
  ⟨some 34, (some (33, false)), .fld 1 (.t 3)⟩,
  ⟨some 35, (some (33, false)), .ldi 1 false (.t 34)⟩,
  ⟨some 36, (some (33, false)), .len (.t 35)⟩,
  ⟨some 37, (some (33, false)), .bin .gtr (.t 36) (.int .i64 40)⟩,
  ⟨some 38, none, .pick (.t 33) (.bool true) (.t 37)⟩,
  ⟨some 39, none, .mov (.t 38)⟩,
  ⟨some 40, (some (39, false)), .fld 2 (.t 3)⟩,
  ⟨some 41, (some (39, false)), .ldi 1 false (.t 40)⟩,
  ⟨some 42, (some (39, false)), .lst (.t 41)⟩,
  ⟨some 43, (some (39, false)), .bin .gtr (.t 42) (.int .i64 200)⟩,
  ⟨some 44, none, .pick (.t 39) (.bool true) (.t 43)⟩]
@[simp] def c5_r2 : List AOper := [⟨some 45, none, .call 13 [] []⟩,
  ⟨some 4, none, .mov (.t 45)⟩]
@[simp] def c5_r3 : List AOper := [⟨some 5, none, .mov (.int .i64 0)⟩]
@[simp] def c5_r4 : List AOper := [⟨some 46, none, .mov (.t 5)⟩,
  ⟨some 47, none, .fld 2 (.t 3)⟩,
  ⟨some 48, none, .ldi 1 false (.t 47)⟩,
  ⟨some 49, none, .lst (.t 48)⟩,
  ⟨some 50, none, .bin .lss (.t 46) (.t 49)⟩]
@[simp] def c5_r6 : List AOper := [⟨some 53, none, .fld 2 (.t 3)⟩,
  ⟨some 54, none, .ldi 1 false (.t 53)⟩,
  ⟨some 55, none, .mov (.t 5)⟩,
  ⟨some 56, none, .ixs (.t 54) (.t 55)⟩,
  ⟨some 57, none, .bin .eql (.t 56) (.int .u8 10)⟩]
@[simp] def c5_r7 : List AOper := [⟨some 58, none, .call 13 [] []⟩,
  ⟨some 4, none, .mov (.t 58)⟩]
@[simp] def c5_r5 : List AOper := [⟨some 51, none, .mov (.t 5)⟩,
  ⟨some 52, none, .bin .add (.t 51) (.int .i64 1)⟩,
  ⟨some 5, none, .mov (.t 52)⟩]
def c5_b0 : AC := .seq (.seq (.ops c5_r4 false) (.cond (.t 50) (.skip) (.exit 0))) (.seq (.block 1 (.seq (.ops c5_r6 false) (.cond (.t 57) (.seq (.ops c5_r7 false) (.ret)) (.skip)))) (.ops c5_r5 false))
@[simp] def c5_r8 : List AOper := [⟨some 60, none, .fld 2 (.t 3)⟩,
  ⟨some 61, none, .ldi 1 false (.t 60)⟩,
  ⟨some 62, none, .call 23 [.t 61] []⟩,
  ⟨some 59, none, .mov (.t 62)⟩,
  ⟨some 63, none, .ext (.t 59) 0⟩,
  ⟨some 64, none, .ext (.t 59) 1⟩,
  ⟨some 6, none, .mov (.t 63)⟩,
  ⟨some 7, none, .mov (.t 64)⟩]
@[simp] def c5_r9 : List AOper := [⟨some 65, none, .mov (.t 7)⟩]
@[simp] def c5_r10 : List AOper := [⟨some 66, none, .call 13 [] []⟩,
  ⟨some 4, none, .mov (.t 66)⟩]
@[simp] def c5_r11 : List AOper := [⟨some 68, none, .mov (.t 0)⟩,
  ⟨some 69, none, .call 14 [.t 68] []⟩,
  ⟨some 67, none, .mov (.t 69)⟩,
  ⟨some 70, none, .ext (.t 67) 0⟩,
  ⟨some 71, none, .ext (.t 67) 1⟩,
  ⟨some 8, none, .mov (.t 70)⟩,
  ⟨some 9, none, .mov (.t 71)⟩]
@[simp] def c5_r12 : List AOper := [⟨some 73, none, .mov (.t 8)⟩,
  ⟨some 74, none, .call 24 [.t 73] []⟩,
  ⟨some 72, none, .mov (.t 74)⟩,
  ⟨some 75, none, .ext (.t 72) 0⟩,
  ⟨some 76, none, .ext (.t 72) 1⟩,
  ⟨some 10, none, .mov (.t 75)⟩,
  ⟨some 11, none, .mov (.t 76)⟩]
@[simp] def c5_r13 : List AOper := [⟨some 77, none, .mov (.t 9)⟩,
  ⟨some 78, none, .bin .neq (.t 77) (.int .i64 0)⟩,
  ⟨some 79, none, .mov (.t 78)⟩,
  ⟨some 80, (some (79, false)), .mov (.t 11)⟩,
  ⟨some 81, (some (79, false)), .not (.t 80)⟩,
  ⟨some 82, none, .pick (.t 79) (.bool true) (.t 81)⟩,
  ⟨some 83, none, .mov (.t 82)⟩,
  ⟨some 84, (some (83, false)), .mov (.t 10)⟩,
  ⟨some 85, (some (83, false)), .len (.t 84)⟩,
  ⟨some 86, (some (83, false)), .mov (.t 0)⟩,
  ⟨some 87, (some (83, false)), .len (.t 86)⟩,
  ⟨some 88, (some (83, false)), .bin .add (.t 87) (.int .i64 1)⟩,
  ⟨some 89, (some (83, false)), .bin .neq (.t 85) (.t 88)⟩,
  ⟨some 90, none, .pick (.t 83) (.bool true) (.t 89)⟩,
  ⟨some 91, none, .mov (.t 90)⟩,
  ⟨some 92, (some (91, false)), .mov (.t 8)⟩,
  ⟨some 93, (some (91, false)), .bsl 1 [.t 92]⟩,
  ⟨some 94, (some (91, false)), .call 12 [.t 93] []⟩,
  ⟨some 95, none, .pick (.t 91) (.bool true) (.t 94)⟩]
@[simp] def c5_r14 : List AOper := [⟨some 4, none, .mov (.bool false)⟩]
@[simp] def c5_r15 : List AOper := [⟨some 12, none, .mov (.str [])⟩]
@[simp] def c5_r16 : List AOper := [⟨some 13, none, .mov (.int .i64 0)⟩]
@[simp] def c5_r17 : List AOper := [⟨some 96, none, .mov (.t 13)⟩,
  ⟨some 97, none, .mov (.t 10)⟩,
  ⟨some 98, none, .len (.t 97)⟩,
  ⟨some 99, none, .bin .lss (.t 96) (.t 98)⟩]
@[simp] def c5_r19 : List AOper := [⟨some 102, none, .mov (.t 12)⟩,
  ⟨some 103, none, .mov (.t 10)⟩,
  ⟨some 104, none, .mov (.t 13)⟩,
  ⟨some 105, none, .fld 0 (.t 3)⟩,
  ⟨some 106, none, .ldi 1 false (.t 105)⟩,
  ⟨some 107, none, .bin .add (.t 104) (.t 106)⟩,
  ⟨some 108, none, .mov (.t 10)⟩,
  ⟨some 109, none, .len (.t 108)⟩,
  ⟨some 110, none, .bin .rem (.t 107) (.t 109)⟩,
  ⟨some 111, none, .ixi 1 (.t 103) (.t 110)⟩,
  ⟨some 112, none, .ldi 1 false (.t 111)⟩,
  ⟨some 113, none, .bin .add (.t 112) (.str [10])⟩,
  ⟨some 114, none, .bin .add (.t 102) (.t 113)⟩,
  ⟨some 12, none, .mov (.t 114)⟩]
@[simp] def c5_r20 : List AOper := [⟨some 115, none, .mov (.t 13)⟩,
  ⟨some 116, none, .mov (.t 10)⟩,
  ⟨some 117, none, .len (.t 116)⟩,
  ⟨some 118, none, .bin .quo (.t 117) (.int .i64 2)⟩,
  ⟨some 119, none, .bin .eql (.t 115) (.t 118)⟩]
@[simp] def c5_r21 : List AOper := [⟨some 120, none, .mov (.t 12)⟩,
  ⟨some 121, none, .fld 2 (.t 3)⟩,
  ⟨some 122, none, .ldi 1 false (.t 121)⟩,
  ⟨some 123, none, .bin .add (.t 122) (.str [10])⟩,
  ⟨some 124, none, .bin .add (.t 120) (.t 123)⟩,
  ⟨some 12, none, .mov (.t 124)⟩]
@[simp] def c5_r18 : List AOper := [⟨some 100, none, .mov (.t 13)⟩,
  ⟨some 101, none, .bin .add (.t 100) (.int .i64 1)⟩,
  ⟨some 13, none, .mov (.t 101)⟩]
def c5_b1 : AC := .seq (.seq (.ops c5_r17 false) (.cond (.t 99) (.skip) (.exit 2))) (.seq (.block 3 (.seq (.ops c5_r19 false) (.seq (.ops c5_r20 false) (.cond (.t 119) (.ops c5_r21 false) (.skip))))) (.ops c5_r18 false))
@[simp] def c5_r22 : List AOper := [⟨some 14, none, .mov (.int .i64 0)⟩]
@[simp] def c5_r23 : List AOper := [⟨some 125, none, .mov (.t 14)⟩,
  ⟨some 126, none, .fld 1 (.t 3)⟩,
  ⟨some 127, none, .ldi 1 false (.t 126)⟩,
  ⟨some 128, none, .len (.t 127)⟩,
  ⟨some 129, none, .bin .lss (.t 125) (.t 128)⟩]
@[simp] def c5_r25 : List AOper := [⟨some 132, none, .fld 1 (.t 3)⟩,
  ⟨some 133, none, .ldi 1 false (.t 132)⟩,
  ⟨some 134, none, .mov (.t 14)⟩,
  ⟨some 135, none, .ixi 1 (.t 133) (.t 134)⟩,
  ⟨some 136, none, .ldi 1 false (.t 135)⟩,
  ⟨some 137, none, .bin .geq (.t 136) (.int .i64 0)⟩,
  ⟨some 138, none, .mov (.t 137)⟩,
  ⟨some 139, (some (138, true)), .fld 1 (.t 3)⟩,
  ⟨some 140, (some (138, true)), .ldi 1 false (.t 139)⟩,
  ⟨some 141, (some (138, true)), .mov (.t 14)⟩,
  ⟨some 142, (some (138, true)), .ixi 1 (.t 140) (.t 141)⟩,
  ⟨some 143, (some (138, true)), .ldi 1 false (.t 142)⟩,
  ⟨some 144, (some (138, true)), .mov (.t 10)⟩,
  ⟨some 145, (some (138, true)), .len (.t 144)⟩,
  ⟨some 146, (some (138, true)), .bin .lss (.t 143) (.t 145)⟩,
  ⟨some 147, none, .pick (.t 138) (.t 146) (.bool false)⟩]
@[simp] def c5_r26 : List AOper := [⟨some 148, none, .mov (.t 12)⟩,
  ⟨some 149, none, .mov (.t 10)⟩,
  ⟨some 150, none, .fld 1 (.t 3)⟩,
  ⟨some 151, none, .ldi 1 false (.t 150)⟩,
  ⟨some 152, none, .mov (.t 14)⟩,
  ⟨some 153, none, .ixi 1 (.t 151) (.t 152)⟩,
  ⟨some 154, none, .ldi 1 false (.t 153)⟩,
  ⟨some 155, none, .ixi 1 (.t 149) (.t 154)⟩,
  ⟨some 156, none, .ldi 1 false (.t 155)⟩,
  ⟨some 157, none, .bin .add (.t 156) (.str [10])⟩,
  ⟨some 158, none, .bin .add (.t 148) (.t 157)⟩,
  ⟨some 12, none, .mov (.t 158)⟩]
@[simp] def c5_r24 : List AOper := [⟨some 130, none, .mov (.t 14)⟩,
  ⟨some 131, none, .bin .add (.t 130) (.int .i64 1)⟩,
  ⟨some 14, none, .mov (.t 131)⟩]
def c5_b2 : AC := .seq (.seq (.ops c5_r23 false) (.cond (.t 129) (.skip) (.exit 4))) (.seq (.block 5 (.seq (.ops c5_r25 false) (.cond (.t 147) (.ops c5_r26 false) (.skip)))) (.ops c5_r24 false))
@[simp] def c5_r27 : List AOper := [⟨some 160, none, .mov (.t 12)⟩,
  ⟨some 161, none, .call 19 [.t 160] []⟩,
  ⟨some 159, none, .mov (.t 161)⟩,
  ⟨some 162, none, .ext (.t 159) 0⟩,
  ⟨some 163, none, .ext (.t 159) 1⟩,
  ⟨some 164, none, .ext (.t 159) 2⟩,
  ⟨some 15, none, .mov (.t 162)⟩,
  ⟨some 16, none, .mov (.t 163)⟩,
  ⟨some 17, none, .mov (.t 164)⟩]
@[simp] def c5_r28 : List AOper := [⟨some 166, none, .mov (.t 12)⟩,
  ⟨some 167, none, .call 21 [.t 166] []⟩,
  ⟨some 165, none, .mov (.t 167)⟩,
  ⟨some 168, none, .ext (.t 165) 0⟩,
  ⟨some 169, none, .ext (.t 165) 1⟩,
  ⟨some 18, none, .mov (.t 168)⟩,
  ⟨some 19, none, .mov (.t 169)⟩]
@[simp] def c5_r29 : List AOper := [⟨some 170, none, .mov (.t 17)⟩,
  ⟨some 171, none, .bin .eql (.t 170) (.int .i64 0)⟩,
  ⟨some 172, none, .mov (.t 171)⟩,
  ⟨some 173, (some (172, true)), .mov (.t 19)⟩,
  ⟨some 174, (some (172, true)), .bin .eql (.t 173) (.int .i64 0)⟩,
  ⟨some 175, none, .pick (.t 172) (.t 174) (.bool false)⟩,
  ⟨some 176, none, .mov (.t 175)⟩,
  ⟨some 177, (some (176, true)), .mov (.t 15)⟩,
  ⟨some 178, (some (176, true)), .mov (.t 0)⟩,
  ⟨some 179, (some (176, true)), .call 16 [.t 177, .t 178] []⟩,
  ⟨some 180, none, .pick (.t 176) (.t 179) (.bool false)⟩,
  ⟨some 181, none, .mov (.t 180)⟩,
  ⟨some 182, (some (181, true)), .mov (.t 16)⟩,
  ⟨some 183, (some (181, true)), .len (.t 182)⟩,
  ⟨some 184, (some (181, true)), .bin .eql (.t 183) (.int .i64 0)⟩,
  ⟨some 185, none, .pick (.t 181) (.t 184) (.bool false)⟩,
  ⟨some 186, none, .mov (.t 185)⟩,
  ⟨some 187, (some (186, true)), .mov (.t 18)⟩,
  ⟨some 188, (some (186, true)), .mov (.t 10)⟩,
  ⟨some 189, (some (186, true)), .len (.t 188)⟩,
  ⟨some 190, (some (186, true)), .bin .quo (.t 189) (.int .i64 2)⟩,
  ⟨some 191, (some (186, true)), .bin .add (.t 190) (.int .i64 1)⟩,
  ⟨some 192, (some (186, true)), .bsl 1 [.t 191]⟩,
  ⟨some 193, (some (186, true)), .call 22 [.t 187, .t 192] []⟩,
  ⟨some 194, none, .pick (.t 186) (.t 193) (.bool false)⟩,
  ⟨some 195, none, .mov (.t 194)⟩,
  ⟨some 196, (some (195, true)), .call 13 [] []⟩,
  ⟨some 197, none, .pick (.t 195) (.t 196) (.bool false)⟩,
  ⟨some 4, none, .mov (.t 197)⟩]
@[simp] def c5 : AFn := ⟨198, [.tmp 4], .seq (.ops c5_r0 false) (.seq (.seq (.ops c5_r1 false) (.cond (.t 44) (.seq (.ops c5_r2 false) (.ret)) (.skip))) (.seq (.seq (.ops c5_r3 false) (.block 0 (.loop c5_b0 [0, 3, 5] []))) (.seq (.seq (.ops c5_r8 false) (.seq (.ops c5_r9 false) (.cond (.t 65) (.seq (.ops c5_r10 false) (.ret)) (.skip)))) (.seq (.ops c5_r11 false) (.seq (.ops c5_r12 false) (.seq (.seq (.ops c5_r13 false) (.cond (.t 95) (.seq (.ops c5_r14 false) (.ret)) (.skip))) (.seq (.ops c5_r15 false) (.seq (.seq (.ops c5_r16 false) (.block 2 (.loop c5_b1 [0, 3, 10, 12, 13] []))) (.seq (.seq (.ops c5_r22 false) (.block 4 (.loop c5_b2 [0, 3, 10, 12, 14] []))) (.seq (.ops c5_r27 false) (.seq (.ops c5_r28 false) (.seq (.ops c5_r29 false) (.ret)))))))))))))⟩

/-- shackle shacklelaw14.BooksJoin -/
@[simp] def c6_r0 : List AOper := [⟨some 4, none, .mov (.bool false)⟩]
@[simp] def c6_r1 : List AOper := [⟨some 9, none, .mov (.t 0)⟩,
  ⟨some 10, none, .mov (.t 1)⟩,
  ⟨some 11, none, .bsl 1 [.t 9, .t 10]⟩,
  ⟨some 12, none, .call 12 [.t 11] []⟩,
  ⟨some 13, none, .mov (.t 12)⟩,
  ⟨some 14, (some (13, false)), .mov (.t 0)⟩,
  ⟨some 15, (some (13, false)), .mov (.t 1)⟩,
  ⟨some 16, (some (13, false)), .bin .add (.t 14) (.t 15)⟩,
  ⟨some 17, (some (13, false)), .call 25 [.t 16] []⟩,
  ⟨some 18, none, .pick (.t 13) (.bool true) (.t 17)⟩]
@[simp] def c6_r2 : List AOper := [⟨some 19, none, .call 13 [] []⟩,
  ⟨some 4, none, .mov (.t 19)⟩]
@[simp] def c6_r3 : List AOper := [⟨some 21, none, .mov (.t 0)⟩,
  ⟨some 22, none, .mov (.t 1)⟩,
  ⟨some 23, none, .call 26 [.t 21, .t 22] []⟩,
  ⟨some 20, none, .mov (.t 23)⟩,
  ⟨some 24, none, .ext (.t 20) 0⟩,
  ⟨some 25, none, .ext (.t 20) 1⟩,
  ⟨some 5, none, .mov (.t 24)⟩,
  ⟨some 6, none, .mov (.t 25)⟩]
@[simp] def c6_r4 : List AOper := [⟨some 27, none, .mov (.t 0)⟩,
  ⟨some 28, none, .mov (.t 1)⟩,
  ⟨some 29, none, .call 27 [.t 27, .t 28] []⟩,
  ⟨some 26, none, .mov (.t 29)⟩,
  ⟨some 30, none, .ext (.t 26) 0⟩,
  ⟨some 31, none, .ext (.t 26) 1⟩,
  ⟨some 7, none, .mov (.t 30)⟩,
  ⟨some 8, none, .mov (.t 31)⟩]
@[simp] def c6_r5 : List AOper := [⟨some 32, none, .mov (.t 5)⟩,
  ⟨some 33, none, .mov (.t 7)⟩,
  ⟨some 34, none, .call 16 [.t 32, .t 33] []⟩,
  ⟨some 35, none, .mov (.t 34)⟩,
  ⟨some 36, (some (35, true)), .mov (.t 6)⟩,
  ⟨some 37, (some (35, true)), .mov (.t 8)⟩,
  ⟨some 38, (some (35, true)), .bin .eql (.t 36) (.t 37)⟩,
  ⟨some 39, none, .pick (.t 35) (.t 38) (.bool false)⟩,
  ⟨some 40, none, .mov (.t 39)⟩,
  ⟨some 41, (some (40, true)), .call 13 [] []⟩,
  ⟨some 42, none, .pick (.t 40) (.t 41) (.bool false)⟩,
  ⟨some 4, none, .mov (.t 42)⟩]
@[simp] def c6 : AFn := ⟨43, [.tmp 4], .seq (.ops c6_r0 false) (.seq (.seq (.ops c6_r1 false) (.cond (.t 18) (.seq (.ops c6_r2 false) (.ret)) (.skip))) (.seq (.ops c6_r3 false) (.seq (.ops c6_r4 false) (.seq (.ops c6_r5 false) (.ret)))))⟩

/-- shackle shacklelaw14.BooksCopies -/
@[simp] def c7_r0 : List AOper := [⟨some 3, none, .boxi (.t 1)⟩,
  ⟨some 4, none, .mov (.bool false)⟩]
@[simp] def c7_r1 : List AOper := [⟨some 22, none, .mov (.t 0)⟩,
  ⟨some 23, none, .call 17 [.t 22] []⟩,
  ⟨some 24, none, .not (.t 23)⟩]
@[simp] def c7_r2 : List AOper := [⟨some 25, none, .call 13 [] []⟩,
  ⟨some 4, none, .mov (.t 25)⟩]
@[simp] def c7_r3 : List AOper := [⟨some 27, none, .mov (.t 0)⟩,
  ⟨some 28, none, .call 14 [.t 27] []⟩,
  ⟨some 26, none, .mov (.t 28)⟩,
  ⟨some 29, none, .ext (.t 26) 0⟩,
  ⟨some 30, none, .ext (.t 26) 1⟩,
  ⟨some 5, none, .mov (.t 29)⟩,
  ⟨some 6, none, .mov (.t 30)⟩]
@[simp] def c7_r4 : List AOper := [⟨some 31, none, .mov (.t 6)⟩,
  ⟨some 32, none, .bin .neq (.t 31) (.int .i64 0)⟩,
  ⟨some 33, none, .mov (.t 32)⟩,
  ⟨some 34, (some (33, false)), .mov (.t 5)⟩,
  ⟨some 35, (some (33, false)), .bsl 1 [.t 34]⟩,
  ⟨some 36, (some (33, false)), .call 12 [.t 35] []⟩,
  ⟨some 37, none, .pick (.t 33) (.bool true) (.t 36)⟩]
@[simp] def c7_r5 : List AOper := [⟨some 4, none, .mov (.bool false)⟩]
@[simp] def c7_r6 : List AOper := [⟨some 39, none, .mov (.t 5)⟩,
  ⟨some 40, none, .fld 0 (.t 3)⟩,
  ⟨some 41, none, .ldi 1 false (.t 40)⟩,
  ⟨some 42, none, .call 18 [.t 39, .t 41] []⟩,
  ⟨some 38, none, .mov (.t 42)⟩,
  ⟨some 43, none, .ext (.t 38) 0⟩,
  ⟨some 44, none, .ext (.t 38) 1⟩,
  ⟨some 45, none, .ext (.t 38) 2⟩,
  ⟨some 46, none, .ext (.t 38) 3⟩,
  ⟨some 7, none, .mov (.t 43)⟩,
  ⟨some 8, none, .mov (.t 44)⟩,
  ⟨some 9, none, .mov (.t 45)⟩,
  ⟨some 10, none, .mov (.t 46)⟩]
@[simp] def c7_r7 : List AOper := [⟨some 48, none, .mov (.t 5)⟩,
  ⟨some 49, none, .fld 1 (.t 3)⟩,
  ⟨some 50, none, .ldi 1 false (.t 49)⟩,
  ⟨some 51, none, .call 18 [.t 48, .t 50] []⟩,
  ⟨some 47, none, .mov (.t 51)⟩,
  ⟨some 52, none, .ext (.t 47) 0⟩,
  ⟨some 53, none, .ext (.t 47) 1⟩,
  ⟨some 54, none, .ext (.t 47) 2⟩,
  ⟨some 55, none, .ext (.t 47) 3⟩,
  ⟨some 11, none, .mov (.t 52)⟩,
  ⟨some 12, none, .mov (.t 53)⟩,
  ⟨some 13, none, .mov (.t 54)⟩,
  ⟨some 14, none, .mov (.t 55)⟩]
@[simp] def c7_r8 : List AOper := [⟨some 56, none, .mov (.t 10)⟩,
  ⟨some 57, none, .not (.t 56)⟩,
  ⟨some 58, none, .mov (.t 57)⟩,
  ⟨some 59, (some (58, false)), .mov (.t 14)⟩,
  ⟨some 60, (some (58, false)), .not (.t 59)⟩,
  ⟨some 61, none, .pick (.t 58) (.bool true) (.t 60)⟩,
  ⟨some 62, none, .mov (.t 61)⟩,
  ⟨some 63, (some (62, false)), .mov (.t 7)⟩,
  ⟨some 64, (some (62, false)), .len (.t 63)⟩,
  ⟨some 65, (some (62, false)), .mov (.t 0)⟩,
  ⟨some 66, (some (62, false)), .len (.t 65)⟩,
  ⟨some 67, (some (62, false)), .bin .add (.t 66) (.int .i64 1)⟩,
  ⟨some 68, (some (62, false)), .bin .neq (.t 64) (.t 67)⟩,
  ⟨some 69, none, .pick (.t 62) (.bool true) (.t 68)⟩,
  ⟨some 70, none, .mov (.t 69)⟩,
  ⟨some 71, (some (70, false)), .mov (.t 11)⟩,
  ⟨some 72, (some (70, false)), .len (.t 71)⟩,
  ⟨some 73, (some (70, false)), .mov (.t 7)⟩,
  ⟨some 74, (some (70, false)), .len (.t 73)⟩,
  ⟨some 75, (some (70, false)), .bin .neq (.t 72) (.t 74)⟩,
  ⟨some 76, none, .pick (.t 70) (.bool true) (.t 75)⟩]
@[simp] def c7_r9 : List AOper := [⟨some 77, none, .fld 0 (.t 3)⟩,
  ⟨some 78, none, .ldi 1 false (.t 77)⟩,
  ⟨some 79, none, .len (.t 78)⟩,
  ⟨some 80, none, .bin .gtr (.t 79) (.int .i64 200)⟩,
  ⟨some 81, none, .mov (.t 80)⟩,
  ⟨some 82, (some (81, false)), .fld 1 (.t 3)⟩,
  ⟨some 83, (some (81, false)), .ldi 1 false (.t 82)⟩,
  ⟨some 84, (some (81, false)), .len (.t 83)⟩,
  ⟨some 85, (some (81, false)), .bin .gtr (.t 84) (.int .i64 200)⟩,
  ⟨some 86, none, .pick (.t 81) (.bool true) (.t 85)⟩,
  ⟨some 87, none, .mov (.t 86)⟩,
  ⟨some 88, (some (87, true)), .call 13 [] []⟩,
  ⟨some 89, none, .pick (.t 87) (.t 88) (.bool false)⟩,
  ⟨some 4, none, .mov (.t 89)⟩]
@[simp] def c7_r10 : List AOper := [⟨some 15, none, .mov (.int .i64 0)⟩,
  ⟨some 16, none, .mov (.int .i64 0)⟩]
@[simp] def c7_r11 : List AOper := [⟨some 17, none, .mov (.int .i64 0)⟩]
@[simp] def c7_r12 : List AOper := [⟨some 90, none, .mov (.t 17)⟩,
  ⟨some 91, none, .mov (.t 7)⟩,
  ⟨some 92, none, .len (.t 91)⟩,
  ⟨some 93, none, .bin .lss (.t 90) (.t 92)⟩]
@[simp] def c7_r14 : List AOper := [⟨some 96, none, .mov (.t 8)⟩,
  ⟨some 97, none, .mov (.t 17)⟩,
  ⟨some 98, none, .ixi 1 (.t 96) (.t 97)⟩,
  ⟨some 99, none, .ldi 1 false (.t 98)⟩,
  ⟨some 100, none, .bin .gtr (.t 99) (.int .i64 1)⟩,
  ⟨some 101, none, .mov (.t 100)⟩,
  ⟨some 102, (some (101, false)), .mov (.t 12)⟩,
  ⟨some 103, (some (101, false)), .mov (.t 17)⟩,
  ⟨some 104, (some (101, false)), .ixi 1 (.t 102) (.t 103)⟩,
  ⟨some 105, (some (101, false)), .ldi 1 false (.t 104)⟩,
  ⟨some 106, (some (101, false)), .bin .gtr (.t 105) (.int .i64 1)⟩,
  ⟨some 107, none, .pick (.t 101) (.bool true) (.t 106)⟩,
  ⟨some 108, none, .mov (.t 107)⟩,
  ⟨some 109, (some (108, false)), .mov (.t 9)⟩,
  ⟨some 110, (some (108, false)), .mov (.t 17)⟩,
  ⟨some 111, (some (108, false)), .ixi 1 (.t 109) (.t 110)⟩,
  ⟨some 112, (some (108, false)), .ldi 1 false (.t 111)⟩,
  ⟨some 113, (some (108, false)), .bin .gtr (.t 112) (.int .i64 0)⟩,
  ⟨some 114, (some (108, false)), .mov (.t 113)⟩,
  ⟨some 115, (some (114, true)), .mov (.t 13)⟩,
  ⟨some 116, (some (114, true)), .mov (.t 17)⟩,
  ⟨some 117, (some (114, true)), .ixi 1 (.t 115) (.t 116)⟩,
  ⟨some 118, (some (114, true)), .ldi 1 false (.t 117)⟩,
  ⟨some 119, (some (114, true)), .bin .gtr (.t 118) (.int .i64 0)⟩,
  ⟨some 120, (some (108, false)), .pick (.t 114) (.t 119) (.bool false)⟩,
  ⟨some 121, none, .pick (.t 108) (.bool true) (.t 120)⟩]
@[simp] def c7_r15 : List AOper := [⟨some 122, none, .call 13 [] []⟩,
  ⟨some 4, none, .mov (.t 122)⟩]
@[simp] def c7_r16 : List AOper := [⟨some 123, none, .mov (.t 15)⟩,
  ⟨some 124, none, .mov (.t 9)⟩,
  ⟨some 125, none, .mov (.t 17)⟩,
  ⟨some 126, none, .ixi 1 (.t 124) (.t 125)⟩,
  ⟨some 127, none, .ldi 1 false (.t 126)⟩,
  ⟨some 128, none, .bin .sub (.int .i64 1) (.t 127)⟩,
  ⟨some 129, none, .bin .add (.t 123) (.t 128)⟩,
  ⟨some 15, none, .mov (.t 129)⟩]
@[simp] def c7_r17 : List AOper := [⟨some 130, none, .mov (.t 16)⟩,
  ⟨some 131, none, .mov (.t 13)⟩,
  ⟨some 132, none, .mov (.t 17)⟩,
  ⟨some 133, none, .ixi 1 (.t 131) (.t 132)⟩,
  ⟨some 134, none, .ldi 1 false (.t 133)⟩,
  ⟨some 135, none, .bin .sub (.int .i64 1) (.t 134)⟩,
  ⟨some 136, none, .bin .add (.t 130) (.t 135)⟩,
  ⟨some 16, none, .mov (.t 136)⟩]
@[simp] def c7_r13 : List AOper := [⟨some 94, none, .mov (.t 17)⟩,
  ⟨some 95, none, .bin .add (.t 94) (.int .i64 1)⟩,
  ⟨some 17, none, .mov (.t 95)⟩]
def c7_b0 : AC := .seq (.seq (.ops c7_r12 false) (.cond (.t 93) (.skip) (.exit 0))) (.seq (.block 1 (.seq (.seq (.ops c7_r14 false) (.cond (.t 121) (.seq (.ops c7_r15 false) (.ret)) (.skip))) (.seq (.ops c7_r16 false) (.ops c7_r17 false)))) (.ops c7_r13 false))
@[simp] def c7_r18 : List AOper := [⟨some 137, none, .mov (.t 15)⟩,
  ⟨some 138, none, .bin .eql (.t 137) (.int .i64 0)⟩,
  ⟨some 139, none, .mov (.t 138)⟩,
  ⟨some 140, (some (139, false)), .mov (.t 16)⟩,
  ⟨some 141, (some (139, false)), .bin .eql (.t 140) (.int .i64 0)⟩,
  ⟨some 142, none, .pick (.t 139) (.bool true) (.t 141)⟩]
@[simp] def c7_r19 : List AOper := [⟨some 143, none, .call 13 [] []⟩,
  ⟨some 4, none, .mov (.t 143)⟩]
@[simp] def c7_r20 : List AOper := [⟨some 144, none, .mov (.t 7)⟩,
  ⟨some 145, none, .mov (.t 9)⟩,
  ⟨some 146, none, .call 20 [.t 144, .t 145] []⟩,
  ⟨some 147, none, .mov (.t 11)⟩,
  ⟨some 148, none, .mov (.t 13)⟩,
  ⟨some 149, none, .call 20 [.t 147, .t 148] []⟩,
  ⟨some 18, none, .mov (.t 146)⟩,
  ⟨some 19, none, .mov (.t 149)⟩]
@[simp] def c7_r21 : List AOper := [⟨some 150, none, .fld 2 (.t 3)⟩,
  ⟨some 151, none, .ldi 1 false (.t 150)⟩]
@[simp] def c7_r22 : List AOper := [⟨some 152, none, .mov (.t 19)⟩,
  ⟨some 153, none, .mov (.t 18)⟩,
  ⟨some 18, none, .mov (.t 152)⟩,
  ⟨some 19, none, .mov (.t 153)⟩]
@[simp] def c7_r23 : List AOper := [⟨some 155, none, .mov (.t 18)⟩,
  ⟨some 156, none, .mov (.t 19)⟩,
  ⟨some 157, none, .call 26 [.t 155, .t 156] []⟩,
  ⟨some 154, none, .mov (.t 157)⟩,
  ⟨some 158, none, .ext (.t 154) 0⟩,
  ⟨some 159, none, .ext (.t 154) 1⟩,
  ⟨some 20, none, .mov (.t 158)⟩,
  ⟨some 21, none, .mov (.t 159)⟩]
@[simp] def c7_r24 : List AOper := [⟨some 160, none, .mov (.t 21)⟩,
  ⟨some 161, none, .bin .eql (.t 160) (.int .i64 0)⟩,
  ⟨some 162, none, .mov (.t 161)⟩,
  ⟨some 163, (some (162, true)), .mov (.t 20)⟩,
  ⟨some 164, (some (162, true)), .mov (.t 0)⟩,
  ⟨some 165, (some (162, true)), .call 16 [.t 163, .t 164] []⟩,
  ⟨some 166, none, .pick (.t 162) (.t 165) (.bool false)⟩,
  ⟨some 167, none, .mov (.t 166)⟩,
  ⟨some 168, (some (167, true)), .call 13 [] []⟩,
  ⟨some 169, none, .pick (.t 167) (.t 168) (.bool false)⟩,
  ⟨some 4, none, .mov (.t 169)⟩]
@[simp] def c7 : AFn := ⟨170, [.tmp 4], .seq (.ops c7_r0 false) (.seq (.seq (.ops c7_r1 false) (.cond (.t 24) (.seq (.ops c7_r2 false) (.ret)) (.skip))) (.seq (.ops c7_r3 false) (.seq (.seq (.ops c7_r4 false) (.cond (.t 37) (.seq (.ops c7_r5 false) (.ret)) (.skip))) (.seq (.ops c7_r6 false) (.seq (.ops c7_r7 false) (.seq (.seq (.ops c7_r8 false) (.cond (.t 76) (.seq (.ops c7_r9 false) (.ret)) (.skip))) (.seq (.ops c7_r10 false) (.seq (.seq (.ops c7_r11 false) (.block 0 (.loop c7_b0 [0, 3, 7, 8, 9, 11, 12, 13, 15, 16, 17] []))) (.seq (.seq (.ops c7_r18 false) (.cond (.t 142) (.seq (.ops c7_r19 false) (.ret)) (.skip))) (.seq (.ops c7_r20 false) (.seq (.seq (.ops c7_r21 false) (.cond (.t 151) (.ops c7_r22 false) (.skip))) (.seq (.ops c7_r23 false) (.seq (.ops c7_r24 false) (.ret))))))))))))))⟩

/-- shackle shacklelaw14.BooksLost -/
@[simp] def c8_r0 : List AOper := [⟨some 4, none, .mov (.bool false)⟩]
@[simp] def c8_r1 : List AOper := [⟨some 21, none, .mov (.t 0)⟩,
  ⟨some 22, none, .call 17 [.t 21] []⟩,
  ⟨some 23, none, .not (.t 22)⟩]
@[simp] def c8_r2 : List AOper := [⟨some 24, none, .call 13 [] []⟩,
  ⟨some 4, none, .mov (.t 24)⟩]
@[simp] def c8_r3 : List AOper := [⟨some 26, none, .mov (.t 0)⟩,
  ⟨some 27, none, .call 14 [.t 26] []⟩,
  ⟨some 25, none, .mov (.t 27)⟩,
  ⟨some 28, none, .ext (.t 25) 0⟩,
  ⟨some 29, none, .ext (.t 25) 1⟩,
  ⟨some 5, none, .mov (.t 28)⟩,
  ⟨some 6, none, .mov (.t 29)⟩]
@[simp] def c8_r4 : List AOper := [⟨some 30, none, .mov (.t 6)⟩,
  ⟨some 31, none, .bin .neq (.t 30) (.int .i64 0)⟩,
  ⟨some 32, none, .mov (.t 31)⟩,
  ⟨some 33, (some (32, false)), .mov (.t 5)⟩,
  ⟨some 34, (some (32, false)), .bsl 1 [.t 33]⟩,
  ⟨some 35, (some (32, false)), .call 12 [.t 34] []⟩,
  ⟨some 36, none, .pick (.t 32) (.bool true) (.t 35)⟩]
@[simp] def c8_r5 : List AOper := [⟨some 4, none, .mov (.bool false)⟩]
@[simp] def c8_r6 : List AOper := [⟨some 38, none, .mov (.t 5)⟩,
  ⟨some 39, none, .mov (.t 1)⟩,
  ⟨some 40, none, .call 18 [.t 38, .t 39] []⟩,
  ⟨some 37, none, .mov (.t 40)⟩,
  ⟨some 41, none, .ext (.t 37) 0⟩,
  ⟨some 42, none, .ext (.t 37) 1⟩,
  ⟨some 43, none, .ext (.t 37) 2⟩,
  ⟨some 44, none, .ext (.t 37) 3⟩,
  ⟨some 7, none, .mov (.t 41)⟩,
  ⟨some 8, none, .mov (.t 42)⟩,
  ⟨some 9, none, .mov (.t 43)⟩,
  ⟨some 10, none, .mov (.t 44)⟩]
@[simp] def c8_r7 : List AOper := [⟨some 45, none, .mov (.t 10)⟩,
  ⟨some 46, none, .not (.t 45)⟩,
  ⟨some 47, none, .mov (.t 46)⟩,
  ⟨some 48, (some (47, false)), .mov (.t 7)⟩,
  ⟨some 49, (some (47, false)), .len (.t 48)⟩,
  ⟨some 50, (some (47, false)), .mov (.t 0)⟩,
  ⟨some 51, (some (47, false)), .len (.t 50)⟩,
  ⟨some 52, (some (47, false)), .bin .add (.t 51) (.int .i64 1)⟩,
  ⟨some 53, (some (47, false)), .bin .neq (.t 49) (.t 52)⟩,
  ⟨some 54, none, .pick (.t 47) (.bool true) (.t 53)⟩]
@[simp] def c8_r8 : List AOper := [⟨some 55, none, .mov (.t 1)⟩,
  ⟨some 56, none, .len (.t 55)⟩,
  ⟨some 57, none, .bin .gtr (.t 56) (.int .i64 200)⟩,
  ⟨some 58, none, .mov (.t 57)⟩,
  ⟨some 59, (some (58, true)), .call 13 [] []⟩,
  ⟨some 60, none, .pick (.t 58) (.t 59) (.bool false)⟩,
  ⟨some 4, none, .mov (.t 60)⟩]
@[simp] def c8_r9 : List AOper := [⟨some 11, none, .nilo 11 3 1⟩]
@[simp] def c8_r10 : List AOper := [⟨some 12, none, .mov (.int .i64 0)⟩]
@[simp] def c8_r11 : List AOper := [⟨some 61, none, .mov (.t 12)⟩,
  ⟨some 62, none, .mov (.t 7)⟩,
  ⟨some 63, none, .len (.t 62)⟩,
  ⟨some 64, none, .bin .lss (.t 61) (.t 63)⟩]
@[simp] def c8_r13 : List AOper := [⟨some 67, none, .mov (.t 8)⟩,
  ⟨some 68, none, .mov (.t 12)⟩,
  ⟨some 69, none, .ixi 1 (.t 67) (.t 68)⟩,
  ⟨some 70, none, .ldi 1 false (.t 69)⟩,
  ⟨some 71, none, .bin .gtr (.t 70) (.int .i64 1)⟩,
  ⟨some 72, none, .mov (.t 71)⟩,
  ⟨some 73, (some (72, false)), .mov (.t 12)⟩,
  ⟨some 74, (some (72, false)), .mov (.t 0)⟩,
  ⟨some 75, (some (72, false)), .len (.t 74)⟩,
  ⟨some 76, (some (72, false)), .bin .eql (.t 73) (.t 75)⟩,
  ⟨some 77, (some (72, false)), .mov (.t 76)⟩,
  ⟨some 78, (some (77, true)), .mov (.t 9)⟩,
  ⟨some 79, (some (77, true)), .mov (.t 12)⟩,
  ⟨some 80, (some (77, true)), .ixi 1 (.t 78) (.t 79)⟩,
  ⟨some 81, (some (77, true)), .ldi 1 false (.t 80)⟩,
  ⟨some 82, (some (77, true)), .bin .gtr (.t 81) (.int .i64 0)⟩,
  ⟨some 83, (some (72, false)), .pick (.t 77) (.t 82) (.bool false)⟩,
  ⟨some 84, none, .pick (.t 72) (.bool true) (.t 83)⟩]
@[simp] def c8_r14 : List AOper := [⟨some 85, none, .call 13 [] []⟩,
  ⟨some 4, none, .mov (.t 85)⟩]
@[simp] def c8_r15 : List AOper := [⟨some 86, none, .mov (.t 9)⟩,
  ⟨some 87, none, .mov (.t 12)⟩,
  ⟨some 88, none, .ixi 1 (.t 86) (.t 87)⟩,
  ⟨some 89, none, .ldi 1 false (.t 88)⟩,
  ⟨some 90, none, .bin .gtr (.t 89) (.int .i64 0)⟩]
@[simp] def c8_r16 : List AOper := [⟨some 91, none, .mov (.t 11)⟩,
  ⟨some 92, none, .mov (.t 12)⟩,
  ⟨some 93, none, .bsl 1 [.t 92]⟩,
  ⟨some 94, none, .app 11 3 1 8 (.t 91) (.t 93)⟩,
  ⟨some 11, none, .mov (.t 94)⟩]
@[simp] def c8_r12 : List AOper := [⟨some 65, none, .mov (.t 12)⟩,
  ⟨some 66, none, .bin .add (.t 65) (.int .i64 1)⟩,
  ⟨some 12, none, .mov (.t 66)⟩]
def c8_b0 : AC := .seq (.seq (.ops c8_r11 false) (.cond (.t 64) (.skip) (.exit 0))) (.seq (.block 1 (.seq (.seq (.ops c8_r13 false) (.cond (.t 84) (.seq (.ops c8_r14 false) (.ret)) (.skip))) (.seq (.ops c8_r15 false) (.cond (.t 90) (.ops c8_r16 false) (.skip))))) (.ops c8_r12 false))
@[simp] def c8_r17 : List AOper := [⟨some 95, none, .mov (.t 7)⟩,
  ⟨some 96, none, .mov (.t 9)⟩,
  ⟨some 97, none, .call 20 [.t 95, .t 96] []⟩,
  ⟨some 13, none, .mov (.t 97)⟩]
@[simp] def c8_r18 : List AOper := [⟨some 99, none, .mov (.t 13)⟩,
  ⟨some 100, none, .call 19 [.t 99] []⟩,
  ⟨some 98, none, .mov (.t 100)⟩,
  ⟨some 101, none, .ext (.t 98) 0⟩,
  ⟨some 102, none, .ext (.t 98) 1⟩,
  ⟨some 103, none, .ext (.t 98) 2⟩,
  ⟨some 14, none, .mov (.t 101)⟩,
  ⟨some 15, none, .mov (.t 102)⟩,
  ⟨some 16, none, .mov (.t 103)⟩]
@[simp] def c8_r19 : List AOper := [⟨some 105, none, .mov (.t 13)⟩,
  ⟨some 106, none, .call 28 [.t 105] []⟩,
  ⟨some 104, none, .mov (.t 106)⟩,
  ⟨some 107, none, .ext (.t 104) 0⟩,
  ⟨some 108, none, .ext (.t 104) 1⟩,
  ⟨some 17, none, .mov (.t 107)⟩,
  ⟨some 18, none, .mov (.t 108)⟩]
@[simp] def c8_r20 : List AOper := [⟨some 110, none, .mov (.t 13)⟩,
  ⟨some 111, none, .call 21 [.t 110] []⟩,
  ⟨some 109, none, .mov (.t 111)⟩,
  ⟨some 112, none, .ext (.t 109) 0⟩,
  ⟨some 113, none, .ext (.t 109) 1⟩,
  ⟨some 19, none, .mov (.t 112)⟩,
  ⟨some 20, none, .mov (.t 113)⟩]
@[simp] def c8_r21 : List AOper := [⟨some 114, none, .mov (.t 18)⟩,
  ⟨some 115, none, .bin .neq (.t 114) (.int .i64 0)⟩,
  ⟨some 116, none, .mov (.t 115)⟩,
  ⟨some 117, (some (116, false)), .mov (.t 20)⟩,
  ⟨some 118, (some (116, false)), .bin .neq (.t 117) (.int .i64 0)⟩,
  ⟨some 119, none, .pick (.t 116) (.bool true) (.t 118)⟩,
  ⟨some 120, none, .mov (.t 119)⟩,
  ⟨some 121, (some (120, false)), .mov (.t 17)⟩,
  ⟨some 122, (some (120, false)), .mov (.t 11)⟩,
  ⟨some 123, (some (120, false)), .call 22 [.t 121, .t 122] [11]⟩,
  ⟨some 124, (some (120, false)), .not (.t 123)⟩,
  ⟨some 125, none, .pick (.t 120) (.bool true) (.t 124)⟩,
  ⟨some 126, none, .mov (.t 125)⟩,
  ⟨some 127, (some (126, false)), .mov (.t 19)⟩,
  ⟨some 128, (some (126, false)), .len (.t 127)⟩,
  ⟨some 129, (some (126, false)), .bin .gtr (.t 128) (.int .i64 0)⟩,
  ⟨some 130, none, .pick (.t 126) (.bool true) (.t 129)⟩]
@[simp] def c8_r22 : List AOper := [⟨some 4, none, .mov (.bool false)⟩]
@[simp] def c8_r23 : List AOper := [⟨some 131, none, .mov (.t 11)⟩,
  ⟨some 132, none, .leno 11 (.t 131)⟩,
  ⟨some 133, none, .bin .gtr (.t 132) (.int .i64 0)⟩]
@[simp] def c8_r24 : List AOper := [⟨some 134, none, .mov (.t 16)⟩,
  ⟨some 135, none, .bin .eql (.t 134) (.int .i64 142)⟩,
  ⟨some 136, none, .mov (.t 135)⟩,
  ⟨some 137, (some (136, true)), .mov (.t 14)⟩,
  ⟨some 138, (some (136, true)), .len (.t 137)⟩,
  ⟨some 139, (some (136, true)), .mov (.t 15)⟩,
  ⟨some 140, (some (136, true)), .len (.t 139)⟩,
  ⟨some 141, (some (136, true)), .bin .add (.t 138) (.t 140)⟩,
  ⟨some 142, (some (136, true)), .bin .eql (.t 141) (.int .i64 0)⟩,
  ⟨some 143, none, .pick (.t 136) (.t 142) (.bool false)⟩,
  ⟨some 144, none, .mov (.t 143)⟩,
  ⟨some 145, (some (144, true)), .call 13 [] []⟩,
  ⟨some 146, none, .pick (.t 144) (.t 145) (.bool false)⟩,
  ⟨some 4, none, .mov (.t 146)⟩]
@[simp] def c8_r25 : List AOper := [⟨some 147, none, .mov (.t 16)⟩,
  ⟨some 148, none, .bin .eql (.t 147) (.int .i64 0)⟩,
  ⟨some 149, none, .mov (.t 148)⟩,
  ⟨some 150, (some (149, true)), .mov (.t 14)⟩,
  ⟨some 151, (some (149, true)), .mov (.t 0)⟩,
  ⟨some 152, (some (149, true)), .call 16 [.t 150, .t 151] []⟩,
  ⟨some 153, none, .pick (.t 149) (.t 152) (.bool false)⟩,
  ⟨some 154, none, .mov (.t 153)⟩,
  ⟨some 155, (some (154, true)), .call 13 [] []⟩,
  ⟨some 156, none, .pick (.t 154) (.t 155) (.bool false)⟩,
  ⟨some 4, none, .mov (.t 156)⟩]
@[simp] def c8 : AFn := ⟨157, [.tmp 4], .seq (.ops c8_r0 false) (.seq (.seq (.ops c8_r1 false) (.cond (.t 23) (.seq (.ops c8_r2 false) (.ret)) (.skip))) (.seq (.ops c8_r3 false) (.seq (.seq (.ops c8_r4 false) (.cond (.t 36) (.seq (.ops c8_r5 false) (.ret)) (.skip))) (.seq (.ops c8_r6 false) (.seq (.seq (.ops c8_r7 false) (.cond (.t 54) (.seq (.ops c8_r8 false) (.ret)) (.skip))) (.seq (.ops c8_r9 false) (.seq (.seq (.ops c8_r10 false) (.block 0 (.loop c8_b0 [0, 7, 8, 9, 11, 12] [11]))) (.seq (.ops c8_r17 false) (.seq (.ops c8_r18 false) (.seq (.ops c8_r19 false) (.seq (.ops c8_r20 false) (.seq (.seq (.ops c8_r21 false) (.cond (.t 130) (.seq (.ops c8_r22 false) (.ret)) (.skip))) (.seq (.seq (.ops c8_r23 false) (.cond (.t 133) (.seq (.ops c8_r24 false) (.ret)) (.skip))) (.seq (.ops c8_r25 false) (.ret)))))))))))))))⟩

/-- shackle shacklelaw14.BooksClash -/
@[simp] def c9_r0 : List AOper := [⟨some 6, none, .mov (.bool false)⟩]
@[simp] def c9_r1 : List AOper := [⟨some 15, none, .mov (.t 0)⟩,
  ⟨some 16, none, .call 17 [.t 15] []⟩,
  ⟨some 17, none, .not (.t 16)⟩,
  ⟨some 18, none, .mov (.t 17)⟩,
  ⟨some 19, (some (18, false)), .mov (.t 1)⟩,
  ⟨some 20, (some (18, false)), .bin .lss (.t 19) (.int .i64 0)⟩,
  ⟨some 21, none, .pick (.t 18) (.bool true) (.t 20)⟩,
  ⟨some 22, none, .mov (.t 21)⟩,
  ⟨some 23, (some (22, false)), .mov (.t 1)⟩,
  ⟨some 24, (some (22, false)), .mov (.t 0)⟩,
  ⟨some 25, (some (22, false)), .len (.t 24)⟩,
  ⟨some 26, (some (22, false)), .bin .geq (.t 23) (.t 25)⟩,
  ⟨some 27, none, .pick (.t 22) (.bool true) (.t 26)⟩,
  ⟨some 28, none, .mov (.t 27)⟩,
  ⟨some 29, (some (28, false)), .mov (.t 0)⟩,
  ⟨some 30, (some (28, false)), .mov (.t 1)⟩,
  ⟨some 31, (some (28, false)), .ixi 1 (.t 29) (.t 30)⟩,
  ⟨some 32, (some (28, false)), .ldi 1 false (.t 31)⟩,
  ⟨some 33, (some (28, false)), .mov (.t 2)⟩,
  ⟨some 34, (some (28, false)), .bin .eql (.t 32) (.t 33)⟩,
  ⟨some 35, none, .pick (.t 28) (.bool true) (.t 34)⟩,
  ⟨some 36, none, .mov (.t 35)⟩,
  ⟨some 37, (some (36, false)), .mov (.t 2)⟩,
  ⟨some 38, (some (36, false)), .bsl 1 [.t 37]⟩,
  ⟨some 39, (some (36, false)), .call 17 [.t 38] []⟩,
  ⟨some 40, (some (36, false)), .not (.t 39)⟩,
  ⟨some 41, none, .pick (.t 36) (.bool true) (.t 40)⟩]
@[simp] def c9_r2 : List AOper := [⟨some 42, none, .call 13 [] []⟩,
  ⟨some 6, none, .mov (.t 42)⟩]
@[simp] def c9_r3 : List AOper := [⟨some 44, none, .mov (.t 0)⟩,
  ⟨some 45, none, .call 14 [.t 44] []⟩,
  ⟨some 43, none, .mov (.t 45)⟩,
  ⟨some 46, none, .ext (.t 43) 0⟩,
  ⟨some 47, none, .ext (.t 43) 1⟩,
  ⟨some 7, none, .mov (.t 46)⟩,
  ⟨some 8, none, .mov (.t 47)⟩]
@[simp] def c9_r4 : List AOper := [⟨some 48, none, .mov (.t 8)⟩,
  ⟨some 49, none, .bin .neq (.t 48) (.int .i64 0)⟩,
  ⟨some 50, none, .mov (.t 49)⟩,
  ⟨some 51, (some (50, false)), .mov (.t 7)⟩,
  ⟨some 52, (some (50, false)), .bsl 1 [.t 51]⟩,
  ⟨some 53, (some (50, false)), .call 12 [.t 52] []⟩,
  ⟨some 54, none, .pick (.t 50) (.bool true) (.t 53)⟩]
@[simp] def c9_r5 : List AOper := [⟨some 6, none, .mov (.bool false)⟩]
@[simp] def c9_r6 : List AOper := [⟨some 55, none, .mov (.t 7)⟩,
  ⟨some 56, none, .mov (.t 1)⟩,
  ⟨some 57, none, .mov (.t 2)⟩,
  ⟨some 58, none, .call 30 [.t 56, .t 57] []⟩,
  ⟨some 59, none, .call 29 [.t 58] []⟩,
  ⟨some 60, none, .bin .add (.t 55) (.t 59)⟩,
  ⟨some 61, none, .bin .add (.t 60) (.str [10])⟩,
  ⟨some 9, none, .mov (.t 61)⟩]
@[simp] def c9_r7 : List AOper := [⟨some 63, none, .mov (.t 9)⟩,
  ⟨some 64, none, .call 19 [.t 63] []⟩,
  ⟨some 62, none, .mov (.t 64)⟩,
  ⟨some 65, none, .ext (.t 62) 0⟩,
  ⟨some 66, none, .ext (.t 62) 1⟩,
  ⟨some 67, none, .ext (.t 62) 2⟩,
  ⟨some 10, none, .mov (.t 65)⟩,
  ⟨some 11, none, .mov (.t 66)⟩,
  ⟨some 12, none, .mov (.t 67)⟩]
@[simp] def c9_r8 : List AOper := [⟨some 69, none, .mov (.t 9)⟩,
  ⟨some 70, none, .call 28 [.t 69] []⟩,
  ⟨some 68, none, .mov (.t 70)⟩,
  ⟨some 71, none, .ext (.t 68) 0⟩,
  ⟨some 72, none, .ext (.t 68) 1⟩,
  ⟨some 13, none, .mov (.t 71)⟩,
  ⟨some 14, none, .mov (.t 72)⟩]
@[simp] def c9_r9 : List AOper := [⟨some 73, none, .mov (.t 12)⟩,
  ⟨some 74, none, .bin .eql (.t 73) (.int .i64 141)⟩,
  ⟨some 75, none, .mov (.t 74)⟩,
  ⟨some 76, (some (75, true)), .mov (.t 10)⟩,
  ⟨some 77, (some (75, true)), .len (.t 76)⟩,
  ⟨some 78, (some (75, true)), .mov (.t 11)⟩,
  ⟨some 79, (some (75, true)), .len (.t 78)⟩,
  ⟨some 80, (some (75, true)), .bin .add (.t 77) (.t 79)⟩,
  ⟨some 81, (some (75, true)), .bin .eql (.t 80) (.int .i64 0)⟩,
  ⟨some 82, none, .pick (.t 75) (.t 81) (.bool false)⟩,
  ⟨some 83, none, .mov (.t 82)⟩,
  ⟨some 84, (some (83, true)), .mov (.t 14)⟩,
  ⟨some 85, (some (83, true)), .bin .eql (.t 84) (.int .i64 0)⟩,
  ⟨some 86, none, .pick (.t 83) (.t 85) (.bool false)⟩,
  ⟨some 87, none, .mov (.t 86)⟩,
  ⟨some 88, (some (87, true)), .mov (.t 13)⟩,
  ⟨some 89, (some (87, true)), .len (.t 88)⟩,
  ⟨some 90, (some (87, true)), .bin .eql (.t 89) (.int .i64 0)⟩,
  ⟨some 91, none, .pick (.t 87) (.t 90) (.bool false)⟩,
  ⟨some 92, none, .mov (.t 91)⟩,
  ⟨some 93, (some (92, true)), .mov (.t 13)⟩,
  ⟨some 94, (some (92, true)), .mov (.t 1)⟩,
  ⟨some 95, (some (92, true)), .call 31 [.t 93, .t 94] []⟩,
  ⟨some 96, (some (92, true)), .not (.t 95)⟩,
  ⟨some 97, none, .pick (.t 92) (.t 96) (.bool false)⟩,
  ⟨some 98, none, .mov (.t 97)⟩,
  ⟨some 99, (some (98, true)), .call 13 [] []⟩,
  ⟨some 100, none, .pick (.t 98) (.t 99) (.bool false)⟩,
  ⟨some 6, none, .mov (.t 100)⟩]
@[simp] def c9 : AFn := ⟨101, [.tmp 6], .seq (.ops c9_r0 false) (.seq (.seq (.ops c9_r1 false) (.cond (.t 41) (.seq (.ops c9_r2 false) (.ret)) (.skip))) (.seq (.ops c9_r3 false) (.seq (.seq (.ops c9_r4 false) (.cond (.t 54) (.seq (.ops c9_r5 false) (.ret)) (.skip))) (.seq (.ops c9_r6 false) (.seq (.ops c9_r7 false) (.seq (.ops c9_r8 false) (.seq (.ops c9_r9 false) (.ret))))))))⟩

/-- shackle shacklelaw14.BooksRead -/
@[simp] def c10_r0 : List AOper := [⟨some 2, none, .mov (.bool false)⟩]
@[simp] def c10_r1 : List AOper := [⟨some 15, none, .mov (.t 0)⟩,
  ⟨some 16, none, .bsl 1 [.t 15]⟩,
  ⟨some 17, none, .call 12 [.t 16] []⟩,
  ⟨some 18, none, .mov (.t 17)⟩,
  ⟨some 19, (some (18, false)), .mov (.t 0)⟩,
  ⟨some 20, (some (18, false)), .call 25 [.t 19] []⟩,
  ⟨some 21, none, .pick (.t 18) (.bool true) (.t 20)⟩]
@[simp] def c10_r2 : List AOper := [⟨some 22, none, .call 13 [] []⟩,
  ⟨some 2, none, .mov (.t 22)⟩]
@[simp] def c10_r3 : List AOper := [⟨some 24, none, .mov (.t 0)⟩,
  ⟨some 25, none, .call 19 [.t 24] []⟩,
  ⟨some 23, none, .mov (.t 25)⟩,
  ⟨some 26, none, .ext (.t 23) 0⟩,
  ⟨some 27, none, .ext (.t 23) 1⟩,
  ⟨some 28, none, .ext (.t 23) 2⟩,
  ⟨some 3, none, .mov (.t 26)⟩,
  ⟨some 4, none, .mov (.t 27)⟩,
  ⟨some 5, none, .mov (.t 28)⟩]
@[simp] def c10_r4 : List AOper := [⟨some 30, none, .mov (.t 0)⟩,
  ⟨some 31, none, .call 32 [.t 30] []⟩,
  ⟨some 29, none, .mov (.t 31)⟩,
  ⟨some 32, none, .ext (.t 29) 0⟩,
  ⟨some 33, none, .ext (.t 29) 1⟩,
  ⟨some 34, none, .ext (.t 29) 2⟩,
  ⟨some 6, none, .mov (.t 32)⟩,
  ⟨some 7, none, .mov (.t 33)⟩,
  ⟨some 8, none, .mov (.t 34)⟩]
@[simp] def c10_r5 : List AOper := [⟨some 35, none, .mov (.t 3)⟩,
  ⟨some 36, none, .mov (.t 6)⟩,
  ⟨some 37, none, .call 16 [.t 35, .t 36] []⟩,
  ⟨some 38, none, .not (.t 37)⟩,
  ⟨some 39, none, .mov (.t 38)⟩,
  ⟨some 40, (some (39, false)), .mov (.t 4)⟩,
  ⟨some 41, (some (39, false)), .mov (.t 7)⟩,
  ⟨some 42, (some (39, false)), .call 22 [.t 40, .t 41] []⟩,
  ⟨some 43, (some (39, false)), .not (.t 42)⟩,
  ⟨some 44, none, .pick (.t 39) (.bool true) (.t 43)⟩,
  ⟨some 45, none, .mov (.t 44)⟩,
  ⟨some 46, (some (45, false)), .mov (.t 5)⟩,
  ⟨some 47, (some (45, false)), .mov (.t 8)⟩,
  ⟨some 48, (some (45, false)), .bin .neq (.t 46) (.t 47)⟩,
  ⟨some 49, none, .pick (.t 45) (.bool true) (.t 48)⟩]
@[simp] def c10_r6 : List AOper := [⟨some 2, none, .mov (.bool false)⟩]
@[simp] def c10_r7 : List AOper := [⟨some 51, none, .mov (.t 0)⟩,
  ⟨some 52, none, .call 33 [.t 51] []⟩,
  ⟨some 50, none, .mov (.t 52)⟩,
  ⟨some 53, none, .ext (.t 50) 0⟩,
  ⟨some 54, none, .ext (.t 50) 1⟩,
  ⟨some 9, none, .mov (.t 53)⟩,
  ⟨some 5, none, .mov (.t 54)⟩]
@[simp] def c10_r8 : List AOper := [⟨some 56, none, .mov (.t 0)⟩,
  ⟨some 57, none, .call 34 [.t 56] []⟩,
  ⟨some 55, none, .mov (.t 57)⟩,
  ⟨some 58, none, .ext (.t 55) 0⟩,
  ⟨some 59, none, .ext (.t 55) 1⟩,
  ⟨some 10, none, .mov (.t 58)⟩,
  ⟨some 8, none, .mov (.t 59)⟩]
@[simp] def c10_r9 : List AOper := [⟨some 60, none, .mov (.t 9)⟩,
  ⟨some 61, none, .mov (.t 10)⟩,
  ⟨some 62, none, .bin .neq (.t 60) (.t 61)⟩,
  ⟨some 63, none, .mov (.t 62)⟩,
  ⟨some 64, (some (63, false)), .mov (.t 5)⟩,
  ⟨some 65, (some (63, false)), .mov (.t 8)⟩,
  ⟨some 66, (some (63, false)), .bin .neq (.t 64) (.t 65)⟩,
  ⟨some 67, none, .pick (.t 63) (.bool true) (.t 66)⟩]
@[simp] def c10_r10 : List AOper := [⟨some 2, none, .mov (.bool false)⟩]
@[simp] def c10_r11 : List AOper := [⟨some 69, none, .mov (.t 0)⟩,
  ⟨some 70, none, .call 21 [.t 69] []⟩,
  ⟨some 68, none, .mov (.t 70)⟩,
  ⟨some 71, none, .ext (.t 68) 0⟩,
  ⟨some 72, none, .ext (.t 68) 1⟩,
  ⟨some 4, none, .mov (.t 71)⟩,
  ⟨some 5, none, .mov (.t 72)⟩]
@[simp] def c10_r12 : List AOper := [⟨some 74, none, .mov (.t 0)⟩,
  ⟨some 75, none, .call 35 [.t 74] []⟩,
  ⟨some 73, none, .mov (.t 75)⟩,
  ⟨some 76, none, .ext (.t 73) 0⟩,
  ⟨some 77, none, .ext (.t 73) 1⟩,
  ⟨some 7, none, .mov (.t 76)⟩,
  ⟨some 8, none, .mov (.t 77)⟩]
@[simp] def c10_r13 : List AOper := [⟨some 79, none, .mov (.t 0)⟩,
  ⟨some 80, none, .call 28 [.t 79] []⟩,
  ⟨some 78, none, .mov (.t 80)⟩,
  ⟨some 81, none, .ext (.t 78) 0⟩,
  ⟨some 82, none, .ext (.t 78) 1⟩,
  ⟨some 11, none, .mov (.t 81)⟩,
  ⟨some 12, none, .mov (.t 82)⟩]
@[simp] def c10_r14 : List AOper := [⟨some 84, none, .mov (.t 0)⟩,
  ⟨some 85, none, .call 36 [.t 84] []⟩,
  ⟨some 83, none, .mov (.t 85)⟩,
  ⟨some 86, none, .ext (.t 83) 0⟩,
  ⟨some 87, none, .ext (.t 83) 1⟩,
  ⟨some 13, none, .mov (.t 86)⟩,
  ⟨some 14, none, .mov (.t 87)⟩]
@[simp] def c10_r15 : List AOper := [⟨some 88, none, .mov (.t 4)⟩,
  ⟨some 89, none, .mov (.t 7)⟩,
  ⟨some 90, none, .call 22 [.t 88, .t 89] []⟩,
  ⟨some 91, none, .mov (.t 90)⟩,
  ⟨some 92, (some (91, true)), .mov (.t 5)⟩,
  ⟨some 93, (some (91, true)), .mov (.t 8)⟩,
  ⟨some 94, (some (91, true)), .bin .eql (.t 92) (.t 93)⟩,
  ⟨some 95, none, .pick (.t 91) (.t 94) (.bool false)⟩,
  ⟨some 96, none, .mov (.t 95)⟩,
  ⟨some 97, (some (96, true)), .mov (.t 11)⟩,
  ⟨some 98, (some (96, true)), .mov (.t 13)⟩,
  ⟨some 99, (some (96, true)), .call 22 [.t 97, .t 98] []⟩,
  ⟨some 100, none, .pick (.t 96) (.t 99) (.bool false)⟩,
  ⟨some 101, none, .mov (.t 100)⟩,
  ⟨some 102, (some (101, true)), .mov (.t 12)⟩,
  ⟨some 103, (some (101, true)), .mov (.t 14)⟩,
  ⟨some 104, (some (101, true)), .bin .eql (.t 102) (.t 103)⟩,
  ⟨some 105, none, .pick (.t 101) (.t 104) (.bool false)⟩,
  ⟨some 106, none, .mov (.t 105)⟩,
  ⟨some 107, (some (106, true)), .call 13 [] []⟩,
  ⟨some 108, none, .pick (.t 106) (.t 107) (.bool false)⟩,
  ⟨some 2, none, .mov (.t 108)⟩]
@[simp] def c10 : AFn := ⟨109, [.tmp 2], .seq (.ops c10_r0 false) (.seq (.seq (.ops c10_r1 false) (.cond (.t 21) (.seq (.ops c10_r2 false) (.ret)) (.skip))) (.seq (.ops c10_r3 false) (.seq (.ops c10_r4 false) (.seq (.seq (.ops c10_r5 false) (.cond (.t 49) (.seq (.ops c10_r6 false) (.ret)) (.skip))) (.seq (.ops c10_r7 false) (.seq (.ops c10_r8 false) (.seq (.seq (.ops c10_r9 false) (.cond (.t 67) (.seq (.ops c10_r10 false) (.ret)) (.skip))) (.seq (.ops c10_r11 false) (.seq (.ops c10_r12 false) (.seq (.ops c10_r13 false) (.seq (.ops c10_r14 false) (.seq (.ops c10_r15 false) (.ret)))))))))))))⟩

/-- shackle shacklelaw14.BooksBack -/
@[simp] def c11_r0 : List AOper := [⟨some 4, none, .mov (.bool false)⟩]
@[simp] def c11_r1 : List AOper := [⟨some 17, none, .mov (.t 0)⟩,
  ⟨some 18, none, .call 17 [.t 17] []⟩,
  ⟨some 19, none, .not (.t 18)⟩,
  ⟨some 20, none, .mov (.t 19)⟩,
  ⟨some 21, (some (20, false)), .mov (.t 1)⟩,
  ⟨some 22, (some (20, false)), .bsl 1 [.t 21]⟩,
  ⟨some 23, (some (20, false)), .call 12 [.t 22] []⟩,
  ⟨some 24, none, .pick (.t 20) (.bool true) (.t 23)⟩,
  ⟨some 25, none, .mov (.t 24)⟩,
  ⟨some 26, (some (25, false)), .mov (.t 1)⟩,
  ⟨some 27, (some (25, false)), .call 25 [.t 26] []⟩,
  ⟨some 28, none, .pick (.t 25) (.bool true) (.t 27)⟩]
@[simp] def c11_r2 : List AOper := [⟨some 29, none, .call 13 [] []⟩,
  ⟨some 4, none, .mov (.t 29)⟩]
@[simp] def c11_r3 : List AOper := [⟨some 31, none, .mov (.t 0)⟩,
  ⟨some 32, none, .call 14 [.t 31] []⟩,
  ⟨some 30, none, .mov (.t 32)⟩,
  ⟨some 33, none, .ext (.t 30) 0⟩,
  ⟨some 34, none, .ext (.t 30) 1⟩,
  ⟨some 5, none, .mov (.t 33)⟩,
  ⟨some 6, none, .mov (.t 34)⟩]
@[simp] def c11_r4 : List AOper := [⟨some 36, none, .mov (.t 5)⟩,
  ⟨some 37, none, .call 19 [.t 36] []⟩,
  ⟨some 35, none, .mov (.t 37)⟩,
  ⟨some 38, none, .ext (.t 35) 0⟩,
  ⟨some 39, none, .ext (.t 35) 1⟩,
  ⟨some 40, none, .ext (.t 35) 2⟩,
  ⟨some 7, none, .mov (.t 38)⟩,
  ⟨some 8, none, .mov (.t 39)⟩,
  ⟨some 9, none, .mov (.t 40)⟩]
@[simp] def c11_r5 : List AOper := [⟨some 42, none, .mov (.t 5)⟩,
  ⟨some 43, none, .call 21 [.t 42] []⟩,
  ⟨some 41, none, .mov (.t 43)⟩,
  ⟨some 44, none, .ext (.t 41) 0⟩,
  ⟨some 45, none, .ext (.t 41) 1⟩,
  ⟨some 10, none, .mov (.t 44)⟩,
  ⟨some 11, none, .mov (.t 45)⟩]
@[simp] def c11_r6 : List AOper := [⟨some 47, none, .mov (.t 5)⟩,
  ⟨some 48, none, .call 28 [.t 47] []⟩,
  ⟨some 46, none, .mov (.t 48)⟩,
  ⟨some 49, none, .ext (.t 46) 0⟩,
  ⟨some 50, none, .ext (.t 46) 1⟩,
  ⟨some 12, none, .mov (.t 49)⟩,
  ⟨some 13, none, .mov (.t 50)⟩]
@[simp] def c11_r7 : List AOper := [⟨some 51, none, .mov (.t 6)⟩,
  ⟨some 52, none, .bin .neq (.t 51) (.int .i64 0)⟩,
  ⟨some 53, none, .mov (.t 52)⟩,
  ⟨some 54, (some (53, false)), .mov (.t 9)⟩,
  ⟨some 55, (some (53, false)), .bin .neq (.t 54) (.int .i64 0)⟩,
  ⟨some 56, none, .pick (.t 53) (.bool true) (.t 55)⟩,
  ⟨some 57, none, .mov (.t 56)⟩,
  ⟨some 58, (some (57, false)), .mov (.t 11)⟩,
  ⟨some 59, (some (57, false)), .bin .neq (.t 58) (.int .i64 0)⟩,
  ⟨some 60, none, .pick (.t 57) (.bool true) (.t 59)⟩,
  ⟨some 61, none, .mov (.t 60)⟩,
  ⟨some 62, (some (61, false)), .mov (.t 13)⟩,
  ⟨some 63, (some (61, false)), .bin .neq (.t 62) (.int .i64 0)⟩,
  ⟨some 64, none, .pick (.t 61) (.bool true) (.t 63)⟩,
  ⟨some 65, none, .mov (.t 64)⟩,
  ⟨some 66, (some (65, false)), .mov (.t 7)⟩,
  ⟨some 67, (some (65, false)), .mov (.t 0)⟩,
  ⟨some 68, (some (65, false)), .call 16 [.t 66, .t 67] []⟩,
  ⟨some 69, (some (65, false)), .not (.t 68)⟩,
  ⟨some 70, none, .pick (.t 65) (.bool true) (.t 69)⟩,
  ⟨some 71, none, .mov (.t 70)⟩,
  ⟨some 72, (some (71, false)), .mov (.t 8)⟩,
  ⟨some 73, (some (71, false)), .len (.t 72)⟩,
  ⟨some 74, (some (71, false)), .mov (.t 10)⟩,
  ⟨some 75, (some (71, false)), .len (.t 74)⟩,
  ⟨some 76, (some (71, false)), .bin .add (.t 73) (.t 75)⟩,
  ⟨some 77, (some (71, false)), .mov (.t 12)⟩,
  ⟨some 78, (some (71, false)), .len (.t 77)⟩,
  ⟨some 79, (some (71, false)), .bin .add (.t 76) (.t 78)⟩,
  ⟨some 80, (some (71, false)), .bin .gtr (.t 79) (.int .i64 0)⟩,
  ⟨some 81, none, .pick (.t 71) (.bool true) (.t 80)⟩]
@[simp] def c11_r8 : List AOper := [⟨some 4, none, .mov (.bool false)⟩]
@[simp] def c11_r9 : List AOper := [⟨some 83, none, .mov (.t 1)⟩,
  ⟨some 84, none, .call 19 [.t 83] []⟩,
  ⟨some 82, none, .mov (.t 84)⟩,
  ⟨some 85, none, .ext (.t 82) 0⟩,
  ⟨some 86, none, .ext (.t 82) 1⟩,
  ⟨some 87, none, .ext (.t 82) 2⟩,
  ⟨some 7, none, .mov (.t 85)⟩,
  ⟨some 8, none, .mov (.t 86)⟩,
  ⟨some 6, none, .mov (.t 87)⟩]
@[simp] def c11_r10 : List AOper := [⟨some 89, none, .mov (.t 1)⟩,
  ⟨some 90, none, .call 33 [.t 89] []⟩,
  ⟨some 88, none, .mov (.t 90)⟩,
  ⟨some 91, none, .ext (.t 88) 0⟩,
  ⟨some 92, none, .ext (.t 88) 1⟩,
  ⟨some 14, none, .mov (.t 91)⟩,
  ⟨some 9, none, .mov (.t 92)⟩]
@[simp] def c11_r11 : List AOper := [⟨some 93, none, .mov (.t 6)⟩,
  ⟨some 94, none, .mov (.t 9)⟩,
  ⟨some 95, none, .bin .neq (.t 93) (.t 94)⟩,
  ⟨some 96, none, .mov (.t 95)⟩,
  ⟨some 97, (some (96, false)), .mov (.t 14)⟩,
  ⟨some 98, (some (96, false)), .lst (.t 97)⟩,
  ⟨some 99, (some (96, false)), .bin .gtr (.t 98) (.int .i64 5000)⟩,
  ⟨some 100, none, .pick (.t 96) (.bool true) (.t 99)⟩,
  ⟨some 101, none, .mov (.t 100)⟩,
  ⟨some 102, (some (101, false)), .mov (.t 8)⟩,
  ⟨some 103, (some (101, false)), .call 37 [.t 102] []⟩,
  ⟨some 104, (some (101, false)), .not (.t 103)⟩,
  ⟨some 105, none, .pick (.t 101) (.bool true) (.t 104)⟩]
@[simp] def c11_r12 : List AOper := [⟨some 4, none, .mov (.bool false)⟩]
@[simp] def c11_r13 : List AOper := [⟨some 106, none, .mov (.t 6)⟩,
  ⟨some 107, none, .bin .neq (.t 106) (.int .i64 0)⟩]
@[simp] def c11_r14 : List AOper := [⟨some 108, none, .mov (.t 14)⟩,
  ⟨some 109, none, .bin .eql (.t 108) (.str [])⟩,
  ⟨some 110, none, .mov (.t 109)⟩,
  ⟨some 111, (some (110, true)), .mov (.t 7)⟩,
  ⟨some 112, (some (110, true)), .len (.t 111)⟩,
  ⟨some 113, (some (110, true)), .mov (.t 8)⟩,
  ⟨some 114, (some (110, true)), .len (.t 113)⟩,
  ⟨some 115, (some (110, true)), .bin .add (.t 112) (.t 114)⟩,
  ⟨some 116, (some (110, true)), .bin .eql (.t 115) (.int .i64 0)⟩,
  ⟨some 117, none, .pick (.t 110) (.t 116) (.bool false)⟩,
  ⟨some 118, none, .mov (.t 117)⟩,
  ⟨some 119, (some (118, true)), .call 13 [] []⟩,
  ⟨some 120, none, .pick (.t 118) (.t 119) (.bool false)⟩,
  ⟨some 4, none, .mov (.t 120)⟩]
@[simp] def c11_r15 : List AOper := [⟨some 122, none, .mov (.t 14)⟩,
  ⟨some 123, none, .call 19 [.t 122] []⟩,
  ⟨some 121, none, .mov (.t 123)⟩,
  ⟨some 124, none, .ext (.t 121) 0⟩,
  ⟨some 125, none, .ext (.t 121) 1⟩,
  ⟨some 126, none, .ext (.t 121) 2⟩,
  ⟨some 15, none, .mov (.t 124)⟩,
  ⟨some 16, none, .mov (.t 125)⟩,
  ⟨some 11, none, .mov (.t 126)⟩]
@[simp] def c11_r16 : List AOper := [⟨some 127, none, .mov (.t 11)⟩,
  ⟨some 128, none, .bin .eql (.t 127) (.int .i64 0)⟩,
  ⟨some 129, none, .mov (.t 128)⟩,
  ⟨some 130, (some (129, true)), .mov (.t 16)⟩,
  ⟨some 131, (some (129, true)), .len (.t 130)⟩,
  ⟨some 132, (some (129, true)), .bin .eql (.t 131) (.int .i64 0)⟩,
  ⟨some 133, none, .pick (.t 129) (.t 132) (.bool false)⟩,
  ⟨some 134, none, .mov (.t 133)⟩,
  ⟨some 135, (some (134, true)), .mov (.t 15)⟩,
  ⟨some 136, (some (134, true)), .mov (.t 7)⟩,
  ⟨some 137, (some (134, true)), .call 16 [.t 135, .t 136] []⟩,
  ⟨some 138, none, .pick (.t 134) (.t 137) (.bool false)⟩,
  ⟨some 139, none, .mov (.t 138)⟩,
  ⟨some 140, (some (139, true)), .call 13 [] []⟩,
  ⟨some 141, none, .pick (.t 139) (.t 140) (.bool false)⟩,
  ⟨some 4, none, .mov (.t 141)⟩]
@[simp] def c11 : AFn := ⟨142, [.tmp 4], .seq (.ops c11_r0 false) (.seq (.seq (.ops c11_r1 false) (.cond (.t 28) (.seq (.ops c11_r2 false) (.ret)) (.skip))) (.seq (.ops c11_r3 false) (.seq (.ops c11_r4 false) (.seq (.ops c11_r5 false) (.seq (.ops c11_r6 false) (.seq (.seq (.ops c11_r7 false) (.cond (.t 81) (.seq (.ops c11_r8 false) (.ret)) (.skip))) (.seq (.ops c11_r9 false) (.seq (.ops c11_r10 false) (.seq (.seq (.ops c11_r11 false) (.cond (.t 105) (.seq (.ops c11_r12 false) (.ret)) (.skip))) (.seq (.seq (.ops c11_r13 false) (.cond (.t 107) (.seq (.ops c11_r14 false) (.ret)) (.skip))) (.seq (.ops c11_r15 false) (.seq (.ops c11_r16 false) (.ret)))))))))))))⟩

/-- shackle shacklelaw14.large -/
@[simp] def c12_r0 : List AOper := [⟨some 2, none, .mov (.bool false)⟩]
@[simp] def c12_r1 : List AOper := [⟨some 3, none, .mov (.int .i64 0)⟩]
@[simp] def c12_r2 : List AOper := [⟨some 4, none, .mov (.int .i64 0)⟩]
@[simp] def c12_r3 : List AOper := [⟨some 5, none, .mov (.t 4)⟩,
  ⟨some 6, none, .mov (.t 0)⟩,
  ⟨some 7, none, .len (.t 6)⟩,
  ⟨some 8, none, .bin .lss (.t 5) (.t 7)⟩,
  ⟨some 9, none, .mov (.t 8)⟩,
  ⟨some 10, (some (9, true)), .mov (.t 3)⟩,
  ⟨some 11, (some (9, true)), .bin .leq (.t 10) (.int .i64 5000)⟩,
  ⟨some 12, none, .pick (.t 9) (.t 11) (.bool false)⟩]
@[simp] def c12_r5 : List AOper := [⟨some 15, none, .mov (.t 3)⟩,
  ⟨some 16, none, .mov (.t 0)⟩,
  ⟨some 17, none, .mov (.t 4)⟩,
  ⟨some 18, none, .ixi 1 (.t 16) (.t 17)⟩,
  ⟨some 19, none, .ldi 1 false (.t 18)⟩,
  ⟨some 20, none, .lst (.t 19)⟩,
  ⟨some 21, none, .bin .add (.t 20) (.int .i64 1)⟩,
  ⟨some 22, none, .bin .add (.t 15) (.t 21)⟩,
  ⟨some 3, none, .mov (.t 22)⟩]
@[simp] def c12_r4 : List AOper := [⟨some 13, none, .mov (.t 4)⟩,
  ⟨some 14, none, .bin .add (.t 13) (.int .i64 1)⟩,
  ⟨some 4, none, .mov (.t 14)⟩]
def c12_b0 : AC := .seq (.seq (.ops c12_r3 false) (.cond (.t 12) (.skip) (.exit 0))) (.seq (.block 1 (.ops c12_r5 false)) (.ops c12_r4 false))
@[simp] def c12_r6 : List AOper := [⟨some 23, none, .mov (.t 3)⟩,
  ⟨some 24, none, .bin .gtr (.t 23) (.int .i64 5000)⟩,
  ⟨some 2, none, .mov (.t 24)⟩]
@[simp] def c12 : AFn := ⟨25, [.tmp 2], .seq (.ops c12_r0 false) (.seq (.ops c12_r1 false) (.seq (.seq (.ops c12_r2 false) (.block 0 (.loop c12_b0 [0, 3, 4] []))) (.seq (.ops c12_r6 false) (.ret))))⟩

/-- shackle shacklelaw14.works -/
@[simp] def c13_r0 : List AOper := [⟨some 0, none, .mov (.bool false)⟩]
@[simp] def c13_r1 : List AOper := [⟨some 12, none, .bsl 1 [.str [97, 98], .str [99]]⟩,
  ⟨some 13, none, .call 14 [.t 12] []⟩,
  ⟨some 11, none, .mov (.t 13)⟩,
  ⟨some 14, none, .ext (.t 11) 0⟩,
  ⟨some 15, none, .ext (.t 11) 1⟩,
  ⟨some 1, none, .mov (.t 14)⟩,
  ⟨some 2, none, .mov (.t 15)⟩]
@[simp] def c13_r2 : List AOper := [⟨some 17, none, .call 19 [.str [48, 48, 97, 66, 54, 54, 50, 50, 10, 48, 49, 99, 48, 51, 53, 54, 10, 46, 46, 48, 50, 54, 50, 54, 53, 10]] []⟩,
  ⟨some 16, none, .mov (.t 17)⟩,
  ⟨some 18, none, .ext (.t 16) 0⟩,
  ⟨some 19, none, .ext (.t 16) 1⟩,
  ⟨some 20, none, .ext (.t 16) 2⟩,
  ⟨some 3, none, .mov (.t 18)⟩,
  ⟨some 4, none, .mov (.t 19)⟩,
  ⟨some 5, none, .mov (.t 20)⟩]
@[simp] def c13_r3 : List AOper := [⟨some 22, none, .call 21 [.str [48, 48, 65, 66, 54, 54, 50, 50, 10, 48, 49, 99, 48, 51, 53, 55, 10, 46, 46, 48, 50, 54, 50, 54, 53, 10]] []⟩,
  ⟨some 21, none, .mov (.t 22)⟩,
  ⟨some 23, none, .ext (.t 21) 0⟩,
  ⟨some 24, none, .ext (.t 21) 1⟩,
  ⟨some 6, none, .mov (.t 23)⟩,
  ⟨some 7, none, .mov (.t 24)⟩]
@[simp] def c13_r4 : List AOper := [⟨some 26, none, .call 19 [.str [48, 48, 97, 98, 54, 54, 50, 50, 10, 48, 49, 99, 48, 51, 53, 55, 10, 46, 46, 48, 50, 54, 50, 54, 53, 10, 48, 49, 100, 48, 52, 54, 48, 10]] []⟩,
  ⟨some 25, none, .mov (.t 26)⟩,
  ⟨some 27, none, .ext (.t 25) 0⟩,
  ⟨some 28, none, .ext (.t 25) 1⟩,
  ⟨some 29, none, .ext (.t 25) 2⟩,
  ⟨some 8, none, .mov (.t 27)⟩,
  ⟨some 9, none, .mov (.t 28)⟩,
  ⟨some 10, none, .mov (.t 29)⟩]
@[simp] def c13_r5 : List AOper := [⟨some 30, none, .mov (.t 2)⟩,
  ⟨some 31, none, .bin .eql (.t 30) (.int .i64 0)⟩,
  ⟨some 32, none, .mov (.t 31)⟩,
  ⟨some 33, (some (32, true)), .mov (.t 5)⟩,
  ⟨some 34, (some (32, true)), .bin .eql (.t 33) (.int .i64 0)⟩,
  ⟨some 35, none, .pick (.t 32) (.t 34) (.bool false)⟩,
  ⟨some 36, none, .mov (.t 35)⟩,
  ⟨some 37, (some (36, true)), .mov (.t 7)⟩,
  ⟨some 38, (some (36, true)), .bin .eql (.t 37) (.int .i64 0)⟩,
  ⟨some 39, none, .pick (.t 36) (.t 38) (.bool false)⟩,
  ⟨some 40, none, .mov (.t 39)⟩,
  ⟨some 41, (some (40, true)), .mov (.t 1)⟩,
  ⟨some 42, (some (40, true)), .bin .eql (.t 41) (.str [48, 48, 97, 98, 54, 54, 50, 50, 10, 48, 49, 99, 48, 51, 53, 55, 10, 46, 46, 48, 50, 54, 50, 54, 53, 10])⟩,
  ⟨some 43, none, .pick (.t 40) (.t 42) (.bool false)⟩,
  ⟨some 44, none, .mov (.t 43)⟩,
  ⟨some 45, (some (44, true)), .mov (.t 3)⟩,
  ⟨some 46, (some (44, true)), .bsl 1 [.str [97, 98], .str [99]]⟩,
  ⟨some 47, (some (44, true)), .call 16 [.t 45, .t 46] []⟩,
  ⟨some 48, none, .pick (.t 44) (.t 47) (.bool false)⟩,
  ⟨some 49, none, .mov (.t 48)⟩,
  ⟨some 50, (some (49, true)), .mov (.t 4)⟩,
  ⟨some 51, (some (49, true)), .bsl 1 [.int .i64 0, .int .i64 1]⟩,
  ⟨some 52, (some (49, true)), .call 22 [.t 50, .t 51] []⟩,
  ⟨some 53, none, .pick (.t 49) (.t 52) (.bool false)⟩,
  ⟨some 54, none, .mov (.t 53)⟩,
  ⟨some 55, (some (54, true)), .mov (.t 6)⟩,
  ⟨some 56, (some (54, true)), .bsl 1 [.int .i64 0]⟩,
  ⟨some 57, (some (54, true)), .call 22 [.t 55, .t 56] []⟩,
  ⟨some 58, none, .pick (.t 54) (.t 57) (.bool false)⟩,
  ⟨some 59, none, .mov (.t 58)⟩,
  ⟨some 60, (some (59, true)), .mov (.t 10)⟩,
  ⟨some 61, (some (59, true)), .bin .eql (.t 60) (.int .i64 141)⟩,
  ⟨some 62, none, .pick (.t 59) (.t 61) (.bool false)⟩,
  ⟨some 0, none, .mov (.t 62)⟩]
@[simp] def c13 : AFn := ⟨63, [.tmp 0], .seq (.ops c13_r0 false) (.seq (.ops c13_r1 false) (.seq (.ops c13_r2 false) (.seq (.ops c13_r3 false) (.seq (.ops c13_r4 false) (.seq (.ops c13_r5 false) (.ret))))))⟩

/-- shackle books.Write -/
@[simp] def c14_r0 : List AOper := [⟨some 2, none, .mov (.str [])⟩,
  ⟨some 3, none, .mov (.int .i64 0)⟩]
@[simp] def c14_r1 : List AOper := [⟨some 10, none, .mov (.t 0)⟩,
  ⟨some 11, none, .len (.t 10)⟩,
  ⟨some 12, none, .bin .gtr (.t 11) (.int .i64 40)⟩]
@[simp] def c14_r2 : List AOper := [⟨some 2, none, .mov (.str [])⟩,
  ⟨some 3, none, .mov (.int .i64 2)⟩]
@[simp] def c14_r3 : List AOper := [⟨some 13, none, .mov (.t 0)⟩,
  ⟨some 14, none, .call 38 [.t 13, .fn 39] []⟩]
@[simp] def c14_r4 : List AOper := [⟨some 2, none, .mov (.str [])⟩,
  ⟨some 3, none, .mov (.int .i64 1)⟩]
@[simp] def c14_r5 : List AOper := [⟨some 15, none, .bso 15 65 3 []⟩,
  ⟨some 4, none, .mov (.t 15)⟩]
@[simp] def c14_r6 : List AOper := [⟨some 16, none, .mov (.t 0)⟩,
  ⟨some 17, none, .len (.t 16)⟩,
  ⟨some 18, none, .mov (.int .i64 0)⟩]
@[simp] def c14_r7 : List AOper := [⟨some 19, none, .bin .lss (.t 18) (.t 17)⟩]
@[simp] def c14_r8 : List AOper := [⟨some 20, none, .mov (.t 18)⟩,
  ⟨some 21, none, .ixi 1 (.t 16) (.t 18)⟩,
  ⟨some 22, none, .ldi 1 false (.t 21)⟩,
  ⟨some 5, none, .mov (.t 20)⟩,
  ⟨some 6, none, .mov (.t 22)⟩]
@[simp] def c14_r9 : List AOper := [⟨some 23, none, .mov (.t 4)⟩,
  ⟨some 24, none, .mov (.t 5)⟩,
  ⟨some 25, none, .mov (.t 6)⟩,
  ⟨some 26, none, .bld [.int .i64 0, .str [], .bool false] [(0, 1, .t 24), (1, 1, .t 25), (2, 1, .bool false)]⟩,
  ⟨some 27, none, .bsl 3 [.t 26]⟩,
  ⟨some 28, none, .app 15 65 3 32 (.t 23) (.t 27)⟩,
  ⟨some 4, none, .mov (.t 28)⟩]
@[simp] def c14_r10 : List AOper := [⟨some 29, none, .bin .add (.t 18) (.int .i64 1)⟩,
  ⟨some 18, none, .mov (.t 29)⟩]
def c14_b0 : AC := .seq (.ops c14_r7 false) (.seq (.cond (.t 19) (.skip) (.exit 0)) (.seq (.block 1 (.seq (.ops c14_r8 false) (.ops c14_r9 false))) (.ops c14_r10 false)))
@[simp] def c14_r11 : List AOper := [⟨some 7, none, .mov (.str [])⟩]
@[simp] def c14_r12 : List AOper := [⟨some 30, none, .mov (.t 4)⟩,
  ⟨some 31, none, .mov (.t 0)⟩,
  ⟨some 32, none, .len (.t 31)⟩,
  ⟨some 33, none, .bld [.int .i64 0, .str [], .bool false] [(0, 1, .t 32), (1, 1, .str []), (2, 1, .bool true)]⟩,
  ⟨some 34, none, .bsl 3 [.t 33]⟩,
  ⟨some 35, none, .app 15 65 3 32 (.t 30) (.t 34)⟩,
  ⟨some 36, none, .leno 15 (.t 35)⟩,
  ⟨some 37, none, .mov (.int .i64 0)⟩]
@[simp] def c14_r13 : List AOper := [⟨some 38, none, .bin .lss (.t 37) (.t 36)⟩]
@[simp] def c14_r14 : List AOper := [⟨some 39, none, .ixo 15 3 (.t 35) (.t 37)⟩,
  ⟨some 40, none, .ldo 15 3 true (.t 39)⟩,
  ⟨some 9, none, .alo 9 [.int .i64 0, .str [], .bool false]⟩,
  ⟨none, none, .sto 9 3 (.t 9) (.t 40)⟩]
@[simp] def c14_r15 : List AOper := [⟨some 41, none, .mov (.t 7)⟩,
  ⟨some 42, none, .ldo 9 3 true (.t 9)⟩,
  ⟨some 43, none, .call 41 [.t 42] []⟩,
  ⟨some 44, none, .bin .add (.t 43) (.str [10])⟩,
  ⟨some 45, none, .bin .add (.t 41) (.t 44)⟩,
  ⟨some 7, none, .mov (.t 45)⟩]
@[simp] def c14_r16 : List AOper := [⟨some 46, none, .bin .add (.t 37) (.int .i64 1)⟩,
  ⟨some 37, none, .mov (.t 46)⟩]
def c14_b1 : AC := .seq (.ops c14_r13 false) (.seq (.cond (.t 38) (.skip) (.exit 2)) (.seq (.block 3 (.seq (.ops c14_r14 false) (.ops c14_r15 false))) (.ops c14_r16 false)))
@[simp] def c14_r17 : List AOper := [⟨some 47, none, .mov (.t 7)⟩,
  ⟨some 2, none, .mov (.t 47)⟩,
  ⟨some 3, none, .mov (.int .i64 0)⟩]
@[simp] def c14 : AFn := ⟨48, [.tmp 2, .tmp 3], .seq (.ops c14_r0 false) (.seq (.seq (.ops c14_r1 false) (.cond (.t 12) (.seq (.ops c14_r2 false) (.ret)) (.skip))) (.seq (.seq (.ops c14_r3 false) (.cond (.t 14) (.seq (.ops c14_r4 false) (.ret)) (.skip))) (.seq (.ops c14_r5 false) (.seq (.seq (.ops c14_r6 false) (.block 0 (.loop c14_b0 [0, 4, 16, 17, 18] [15]))) (.seq (.ops c14_r11 false) (.seq (.seq (.ops c14_r12 false) (.block 2 (.loop c14_b1 [7, 35, 36, 37] [15]))) (.seq (.ops c14_r17 false) (.ret))))))))⟩

/-- shackle shackleref14.Write -/
@[simp] def c15_r0 : List AOper := [⟨some 2, none, .mov (.str [])⟩,
  ⟨some 3, none, .mov (.int .i64 0)⟩]
@[simp] def c15_r1 : List AOper := [⟨some 7, none, .mov (.t 0)⟩,
  ⟨some 8, none, .call 42 [.t 7] []⟩,
  ⟨some 4, none, .mov (.t 8)⟩]
@[simp] def c15_r2 : List AOper := [⟨some 9, none, .mov (.t 4)⟩,
  ⟨some 10, none, .bin .neq (.t 9) (.int .i64 0)⟩]
@[simp] def c15_r3 : List AOper := [⟨some 11, none, .mov (.t 4)⟩,
  ⟨some 2, none, .mov (.str [])⟩,
  ⟨some 3, none, .mov (.t 11)⟩]
@[simp] def c15_r4 : List AOper := [⟨some 5, none, .mov (.str [])⟩]
@[simp] def c15_r5 : List AOper := [⟨some 6, none, .mov (.int .i64 0)⟩]
@[simp] def c15_r6 : List AOper := [⟨some 12, none, .mov (.t 6)⟩,
  ⟨some 13, none, .mov (.t 0)⟩,
  ⟨some 14, none, .len (.t 13)⟩,
  ⟨some 15, none, .bin .lss (.t 12) (.t 14)⟩]
@[simp] def c15_r8 : List AOper := [⟨some 18, none, .mov (.t 5)⟩,
  ⟨some 19, none, .mov (.t 6)⟩,
  ⟨some 20, none, .mov (.t 0)⟩,
  ⟨some 21, none, .mov (.t 6)⟩,
  ⟨some 22, none, .ixi 1 (.t 20) (.t 21)⟩,
  ⟨some 23, none, .ldi 1 false (.t 22)⟩,
  ⟨some 24, none, .call 30 [.t 19, .t 23] []⟩,
  ⟨some 25, none, .call 29 [.t 24] []⟩,
  ⟨some 26, none, .bin .add (.t 25) (.str [10])⟩,
  ⟨some 27, none, .bin .add (.t 18) (.t 26)⟩,
  ⟨some 5, none, .mov (.t 27)⟩]
@[simp] def c15_r7 : List AOper := [⟨some 16, none, .mov (.t 6)⟩,
  ⟨some 17, none, .bin .add (.t 16) (.int .i64 1)⟩,
  ⟨some 6, none, .mov (.t 17)⟩]
def c15_b0 : AC := .seq (.seq (.ops c15_r6 false) (.cond (.t 15) (.skip) (.exit 0))) (.seq (.block 1 (.ops c15_r8 false)) (.ops c15_r7 false))
@[simp] def c15_r9 : List AOper := [⟨some 28, none, .mov (.t 5)⟩,
  ⟨some 29, none, .mov (.t 0)⟩,
  ⟨some 30, none, .len (.t 29)⟩,
  ⟨some 31, none, .call 43 [.t 30] []⟩,
  ⟨some 32, none, .call 29 [.t 31] []⟩,
  ⟨some 33, none, .bin .add (.t 28) (.t 32)⟩,
  ⟨some 34, none, .bin .add (.t 33) (.str [10])⟩,
  ⟨some 2, none, .mov (.t 34)⟩,
  ⟨some 3, none, .mov (.int .i64 0)⟩]
@[simp] def c15 : AFn := ⟨35, [.tmp 2, .tmp 3], .seq (.ops c15_r0 false) (.seq (.seq (.ops c15_r1 false) (.seq (.ops c15_r2 false) (.cond (.t 10) (.seq (.ops c15_r3 false) (.ret)) (.skip)))) (.seq (.ops c15_r4 false) (.seq (.seq (.ops c15_r5 false) (.block 0 (.loop c15_b0 [0, 5, 6] []))) (.seq (.ops c15_r9 false) (.ret)))))⟩

/-- shackle shacklelaw12.SameTexts -/
@[simp] def c16_r0 : List AOper := [⟨some 4, none, .mov (.bool false)⟩]
@[simp] def c16_r1 : List AOper := [⟨some 6, none, .mov (.t 0)⟩,
  ⟨some 7, none, .len (.t 6)⟩,
  ⟨some 8, none, .mov (.t 1)⟩,
  ⟨some 9, none, .len (.t 8)⟩,
  ⟨some 10, none, .bin .neq (.t 7) (.t 9)⟩]
@[simp] def c16_r2 : List AOper := [⟨some 4, none, .mov (.bool false)⟩]
@[simp] def c16_r3 : List AOper := [⟨some 5, none, .mov (.int .i64 0)⟩]
@[simp] def c16_r4 : List AOper := [⟨some 11, none, .mov (.t 5)⟩,
  ⟨some 12, none, .mov (.t 0)⟩,
  ⟨some 13, none, .len (.t 12)⟩,
  ⟨some 14, none, .bin .lss (.t 11) (.t 13)⟩]
@[simp] def c16_r6 : List AOper := [⟨some 17, none, .mov (.t 0)⟩,
  ⟨some 18, none, .mov (.t 5)⟩,
  ⟨some 19, none, .ixi 1 (.t 17) (.t 18)⟩,
  ⟨some 20, none, .ldi 1 false (.t 19)⟩,
  ⟨some 21, none, .mov (.t 1)⟩,
  ⟨some 22, none, .mov (.t 5)⟩,
  ⟨some 23, none, .ixi 1 (.t 21) (.t 22)⟩,
  ⟨some 24, none, .ldi 1 false (.t 23)⟩,
  ⟨some 25, none, .bin .neq (.t 20) (.t 24)⟩]
@[simp] def c16_r7 : List AOper := [⟨some 4, none, .mov (.bool false)⟩]
@[simp] def c16_r5 : List AOper := [⟨some 15, none, .mov (.t 5)⟩,
  ⟨some 16, none, .bin .add (.t 15) (.int .i64 1)⟩,
  ⟨some 5, none, .mov (.t 16)⟩]
def c16_b0 : AC := .seq (.seq (.ops c16_r4 false) (.cond (.t 14) (.skip) (.exit 0))) (.seq (.block 1 (.seq (.ops c16_r6 true) (.cond (.t 25) (.seq (.ops c16_r7 false) (.ret)) (.skip)))) (.ops c16_r5 false))
@[simp] def c16_r8 : List AOper := [⟨some 4, none, .mov (.bool true)⟩]
@[simp] def c16 : AFn := ⟨26, [.tmp 4], .seq (.ops c16_r0 false) (.seq (.seq (.ops c16_r1 false) (.cond (.t 10) (.seq (.ops c16_r2 false) (.ret)) (.skip))) (.seq (.seq (.ops c16_r3 false) (.block 0 (.loop c16_b0 [0, 1, 5] []))) (.seq (.ops c16_r8 false) (.ret))))⟩

/-- shackle shacklelaw14.can -/
@[simp] def c17_r0 : List AOper := [⟨some 2, none, .mov (.bool false)⟩]
@[simp] def c17_r1 : List AOper := [⟨some 3, none, .mov (.t 0)⟩,
  ⟨some 4, none, .call 12 [.t 3] []⟩,
  ⟨some 5, none, .not (.t 4)⟩,
  ⟨some 6, none, .mov (.t 5)⟩,
  ⟨some 7, (some (6, true)), .mov (.t 0)⟩,
  ⟨some 8, (some (6, true)), .call 42 [.t 7] []⟩,
  ⟨some 9, (some (6, true)), .bin .eql (.t 8) (.int .i64 0)⟩,
  ⟨some 10, none, .pick (.t 6) (.t 9) (.bool false)⟩,
  ⟨some 2, none, .mov (.t 10)⟩]
@[simp] def c17 : AFn := ⟨11, [.tmp 2], .seq (.ops c17_r0 false) (.seq (.ops c17_r1 false) (.ret))⟩

/-- shackle shacklelaw14.harmed -/
@[simp] def c18_r0 : List AOper := [⟨some 4, none, .mov (.nil 1)⟩,
  ⟨some 5, none, .mov (.nil 1)⟩,
  ⟨some 6, none, .mov (.nil 1)⟩,
  ⟨some 7, none, .mov (.bool false)⟩]
@[simp] def c18_r1 : List AOper := [⟨some 13, none, .mov (.t 0)⟩,
  ⟨some 14, none, .call 24 [.t 13] []⟩,
  ⟨some 12, none, .mov (.t 14)⟩,
  ⟨some 15, none, .ext (.t 12) 0⟩,
  ⟨some 16, none, .ext (.t 12) 1⟩,
  ⟨some 8, none, .mov (.t 15)⟩,
  ⟨some 7, none, .mov (.t 16)⟩]
@[simp] def c18_r2 : List AOper := [⟨some 17, none, .mov (.t 7)⟩,
  ⟨some 18, none, .not (.t 17)⟩,
  ⟨some 19, none, .mov (.t 18)⟩,
  ⟨some 20, (some (19, false)), .mov (.t 1)⟩,
  ⟨some 21, (some (19, false)), .len (.t 20)⟩,
  ⟨some 22, (some (19, false)), .bin .gtr (.t 21) (.int .i64 200)⟩,
  ⟨some 23, none, .pick (.t 19) (.bool true) (.t 22)⟩]
@[simp] def c18_r3 : List AOper := [⟨some 4, none, .mov (.nil 1)⟩,
  ⟨some 5, none, .mov (.nil 1)⟩,
  ⟨some 6, none, .mov (.nil 1)⟩,
  ⟨some 7, none, .mov (.bool false)⟩]
@[simp] def c18_r4 : List AOper := [⟨some 24, none, .bso 24 9 1 []⟩,
  ⟨some 25, none, .mov (.t 8)⟩,
  ⟨some 26, none, .app 24 9 1 16 (.t 24) (.t 25)⟩,
  ⟨some 4, none, .mov (.t 26)⟩]
@[simp] def c18_r5 : List AOper := [⟨some 27, none, .mov (.t 4)⟩,
  ⟨some 28, none, .leno 24 (.t 27)⟩,
  ⟨some 29, none, .yy (.mks 29 3 8 [.int .i64 0] (.t 28))⟩,
  ⟨some 30, none, .mov (.t 4)⟩,
  ⟨some 31, none, .leno 24 (.t 30)⟩,
  ⟨some 32, none, .yy (.mks 32 3 8 [.int .i64 0] (.t 31))⟩,
  ⟨some 5, none, .mov (.t 29)⟩,
  ⟨some 6, none, .mov (.t 32)⟩]
@[simp] def c18_r6 : List AOper := [⟨some 9, none, .mov (.int .i64 0)⟩]
@[simp] def c18_r7 : List AOper := [⟨some 33, none, .mov (.t 9)⟩,
  ⟨some 34, none, .mov (.t 1)⟩,
  ⟨some 35, none, .len (.t 34)⟩,
  ⟨some 36, none, .bin .lss (.t 33) (.t 35)⟩]
@[simp] def c18_r9 : List AOper := [⟨some 39, none, .mov (.t 1)⟩,
  ⟨some 40, none, .mov (.t 9)⟩,
  ⟨some 41, none, .ixi 3 (.t 39) (.t 40)⟩,
  ⟨some 42, none, .ldi 3 true (.t 41)⟩,
  ⟨some 10, none, .alo 10 [.int .i64 0, .int .i64 0, .int .u8 0]⟩,
  ⟨none, none, .sto 10 3 (.t 10) (.t 42)⟩]
@[simp] def c18_r10 : List AOper := [⟨some 43, none, .fld 0 (.t 10)⟩,
  ⟨some 44, none, .ldo 10 1 false (.t 43)⟩,
  ⟨some 45, none, .bin .lss (.t 44) (.int .i64 0)⟩,
  ⟨some 46, none, .mov (.t 45)⟩,
  ⟨some 47, (some (46, false)), .fld 0 (.t 10)⟩,
  ⟨some 48, (some (46, false)), .ldo 10 1 false (.t 47)⟩,
  ⟨some 49, (some (46, false)), .mov (.t 4)⟩,
  ⟨some 50, (some (46, false)), .leno 24 (.t 49)⟩,
  ⟨some 51, (some (46, false)), .bin .geq (.t 48) (.t 50)⟩,
  ⟨some 52, none, .pick (.t 46) (.bool true) (.t 51)⟩,
  ⟨some 53, none, .mov (.t 52)⟩,
  ⟨some 54, (some (53, false)), .mov (.t 6)⟩,
  ⟨some 55, (some (53, false)), .fld 0 (.t 10)⟩,
  ⟨some 56, (some (53, false)), .ldo 10 1 false (.t 55)⟩,
  ⟨some 57, (some (53, false)), .ixo 32 1 (.t 54) (.t 56)⟩,
  ⟨some 58, (some (53, false)), .ldo 32 1 false (.t 57)⟩,
  ⟨some 59, (some (53, false)), .bin .gtr (.t 58) (.int .i64 0)⟩,
  ⟨some 60, none, .pick (.t 53) (.bool true) (.t 59)⟩]
@[simp] def c18_r11 : List AOper := [⟨some 61, none, .mov (.t 4)⟩,
  ⟨some 62, none, .fld 0 (.t 10)⟩,
  ⟨some 63, none, .ldo 10 1 false (.t 62)⟩,
  ⟨some 64, none, .ixo 24 1 (.t 61) (.t 63)⟩,
  ⟨some 65, none, .ldo 24 1 false (.t 64)⟩,
  ⟨some 11, none, .mov (.t 65)⟩]
@[simp] def c18_r12 : List AOper := [⟨some 67, none, .fld 1 (.t 10)⟩,
  ⟨some 68, none, .ldo 10 1 false (.t 67)⟩,
  ⟨some 69, none, .bin .lss (.t 68) (.int .i64 0)⟩,
  ⟨some 66, none, .mov (.t 69)⟩]
@[simp] def c18_r13 : List AOper := [⟨some 70, none, .mov (.t 4)⟩,
  ⟨some 71, none, .fld 0 (.t 10)⟩,
  ⟨some 72, none, .ldo 10 1 false (.t 71)⟩,
  ⟨some 73, none, .ixo 24 1 (.t 70) (.t 72)⟩,
  ⟨none, none, .sto 24 1 (.t 73) (.str [])⟩]
@[simp] def c18_r14 : List AOper := [⟨some 74, none, .mov (.t 6)⟩,
  ⟨some 75, none, .fld 0 (.t 10)⟩,
  ⟨some 76, none, .ldo 10 1 false (.t 75)⟩,
  ⟨some 77, none, .ixo 32 1 (.t 74) (.t 76)⟩,
  ⟨some 78, none, .ldo 32 1 false (.t 77)⟩,
  ⟨some 79, none, .bin .add (.t 78) (.int .i64 1)⟩,
  ⟨some 80, none, .ixo 32 1 (.t 74) (.t 76)⟩,
  ⟨none, none, .sto 32 1 (.t 80) (.t 79)⟩]
@[simp] def c18_r15 : List AOper := [⟨some 81, none, .mov (.t 5)⟩,
  ⟨some 82, none, .fld 0 (.t 10)⟩,
  ⟨some 83, none, .ldo 10 1 false (.t 82)⟩,
  ⟨some 84, none, .ixo 29 1 (.t 81) (.t 83)⟩,
  ⟨some 85, none, .ldo 29 1 false (.t 84)⟩,
  ⟨some 86, none, .bin .add (.t 85) (.int .i64 1)⟩,
  ⟨some 87, none, .ixo 29 1 (.t 81) (.t 83)⟩,
  ⟨none, none, .sto 29 1 (.t 87) (.t 86)⟩]
@[simp] def c18_r16 : List AOper := [⟨some 89, none, .fld 1 (.t 10)⟩,
  ⟨some 90, none, .ldo 10 1 false (.t 89)⟩,
  ⟨some 91, none, .mov (.t 11)⟩,
  ⟨some 92, none, .lst (.t 91)⟩,
  ⟨some 93, none, .bin .lss (.t 90) (.t 92)⟩,
  ⟨some 94, none, .mov (.t 93)⟩,
  ⟨some 95, (some (94, true)), .fld 2 (.t 10)⟩,
  ⟨some 96, (some (94, true)), .ldo 10 1 false (.t 95)⟩,
  ⟨some 97, (some (94, true)), .bin .neq (.t 96) (.int .u8 10)⟩,
  ⟨some 98, none, .pick (.t 94) (.t 97) (.bool false)⟩,
  ⟨some 99, none, .mov (.t 98)⟩,
  ⟨some 100, (some (99, true)), .fld 2 (.t 10)⟩,
  ⟨some 101, (some (99, true)), .ldo 10 1 false (.t 100)⟩,
  ⟨some 102, (some (99, true)), .mov (.t 11)⟩,
  ⟨some 103, (some (99, true)), .fld 1 (.t 10)⟩,
  ⟨some 104, (some (99, true)), .ldo 10 1 false (.t 103)⟩,
  ⟨some 105, (some (99, true)), .ixs (.t 102) (.t 104)⟩,
  ⟨some 106, (some (99, true)), .bin .neq (.t 101) (.t 105)⟩,
  ⟨some 107, none, .pick (.t 99) (.t 106) (.bool false)⟩,
  ⟨some 88, none, .mov (.t 107)⟩]
@[simp] def c18_r17 : List AOper := [⟨some 108, none, .mov (.t 4)⟩,
  ⟨some 109, none, .fld 0 (.t 10)⟩,
  ⟨some 110, none, .ldo 10 1 false (.t 109)⟩,
  ⟨some 111, none, .mov (.t 11)⟩,
  ⟨some 112, none, .fld 1 (.t 10)⟩,
  ⟨some 113, none, .ldo 10 1 false (.t 112)⟩,
  ⟨some 114, none, .sls (.t 111) none (some (.t 113))⟩,
  ⟨some 115, none, .fld 2 (.t 10)⟩,
  ⟨some 116, none, .ldo 10 1 false (.t 115)⟩,
  ⟨some 117, none, .bsl 1 [.t 116]⟩,
  ⟨some 118, none, .b2s (.t 117)⟩,
  ⟨some 119, none, .bin .add (.t 114) (.t 118)⟩,
  ⟨some 120, none, .mov (.t 11)⟩,
  ⟨some 121, none, .fld 1 (.t 10)⟩,
  ⟨some 122, none, .ldo 10 1 false (.t 121)⟩,
  ⟨some 123, none, .bin .add (.t 122) (.int .i64 1)⟩,
  ⟨some 124, none, .sls (.t 120) (some (.t 123)) none⟩,
  ⟨some 125, none, .bin .add (.t 119) (.t 124)⟩,
  ⟨some 126, none, .ixo 24 1 (.t 108) (.t 110)⟩,
  ⟨none, none, .sto 24 1 (.t 126) (.t 125)⟩]
@[simp] def c18_r18 : List AOper := [⟨some 127, none, .mov (.t 5)⟩,
  ⟨some 128, none, .fld 0 (.t 10)⟩,
  ⟨some 129, none, .ldo 10 1 false (.t 128)⟩,
  ⟨some 130, none, .ixo 29 1 (.t 127) (.t 129)⟩,
  ⟨some 131, none, .ldo 29 1 false (.t 130)⟩,
  ⟨some 132, none, .bin .add (.t 131) (.int .i64 1)⟩,
  ⟨some 133, none, .ixo 29 1 (.t 127) (.t 129)⟩,
  ⟨none, none, .sto 29 1 (.t 133) (.t 132)⟩]
@[simp] def c18_r8 : List AOper := [⟨some 37, none, .mov (.t 9)⟩,
  ⟨some 38, none, .bin .add (.t 37) (.int .i64 1)⟩,
  ⟨some 9, none, .mov (.t 38)⟩]
def c18_b0 : AC := .seq (.seq (.ops c18_r7 false) (.cond (.t 36) (.skip) (.exit 0))) (.seq (.block 1 (.seq (.ops c18_r9 false) (.seq (.seq (.ops c18_r10 false) (.cond (.t 60) (.exit 1) (.skip))) (.seq (.ops c18_r11 false) (.block 2 (.seq (.ops c18_r12 false) (.cond (.t 66) (.seq (.ops c18_r13 false) (.seq (.ops c18_r14 false) (.ops c18_r15 false))) (.seq (.ops c18_r16 true) (.cond (.t 88) (.seq (.ops c18_r17 true) (.ops c18_r18 false)) (.skip)))))))))) (.ops c18_r8 false))
@[simp] def c18_r19 : List AOper := [⟨some 134, none, .mov (.t 4)⟩,
  ⟨some 135, none, .mov (.t 5)⟩,
  ⟨some 136, none, .mov (.t 6)⟩,
  ⟨some 4, none, .mov (.t 134)⟩,
  ⟨some 5, none, .mov (.t 135)⟩,
  ⟨some 6, none, .mov (.t 136)⟩,
  ⟨some 7, none, .mov (.bool true)⟩]
@[simp] def c18 : AFn := ⟨137, [.tmp 4, .tmp 5, .tmp 6, .tmp 7], .seq (.ops c18_r0 false) (.seq (.ops c18_r1 false) (.seq (.seq (.ops c18_r2 false) (.cond (.t 23) (.seq (.ops c18_r3 false) (.ret)) (.skip))) (.seq (.ops c18_r4 false) (.seq (.ops c18_r5 true) (.seq (.seq (.ops c18_r6 false) (.block 0 (.loop c18_b0 [1, 4, 5, 6, 9] [24, 29, 32]))) (.seq (.ops c18_r19 false) (.ret)))))))⟩

/-- shackle books.Read -/
@[simp] def c19_r0 : List AOper := [⟨some 2, none, .nilo 2 9 1⟩,
  ⟨some 3, none, .nilo 3 3 1⟩,
  ⟨some 4, none, .mov (.int .i64 0)⟩]
@[simp] def c19_r1 : List AOper := [⟨some 8, none, .mov (.t 0)⟩,
  ⟨some 9, none, .call 44 [.t 8] []⟩,
  ⟨some 7, none, .mov (.t 9)⟩,
  ⟨some 10, none, .ext (.t 7) 0⟩,
  ⟨some 11, none, .ext (.t 7) 1⟩,
  ⟨some 5, none, .alo 5 [.nilm, .nil 1, .nilm, .nil 1]⟩,
  ⟨none, none, .sto 5 4 (.t 5) (.t 10)⟩,
  ⟨some 4, none, .mov (.t 11)⟩]
@[simp] def c19_r2 : List AOper := [⟨some 13, none, .mov (.t 4)⟩,
  ⟨some 14, none, .bin .neq (.t 13) (.int .i64 0)⟩,
  ⟨some 12, none, .mov (.t 14)⟩]
@[simp] def c19_r3 : List AOper := [⟨some 15, none, .mov (.t 4)⟩,
  ⟨some 2, none, .mov (.nil 1)⟩,
  ⟨some 3, none, .mov (.nil 1)⟩,
  ⟨some 4, none, .mov (.t 15)⟩]
@[simp] def c19_r4 : List AOper := [⟨some 17, none, .ldo 5 4 true (.t 5)⟩,
  ⟨some 18, none, .call 45 [.t 17] []⟩,
  ⟨some 16, none, .mov (.t 18)⟩]
@[simp] def c19_r5 : List AOper := [⟨some 2, none, .mov (.nil 1)⟩,
  ⟨some 3, none, .mov (.nil 1)⟩,
  ⟨some 4, none, .mov (.int .i64 141)⟩]
@[simp] def c19_r6 : List AOper := [⟨some 20, none, .fld 1 (.t 5)⟩,
  ⟨some 21, none, .ldo 5 1 false (.t 20)⟩,
  ⟨some 22, none, .len (.t 21)⟩,
  ⟨some 23, none, .bin .eql (.t 22) (.int .i64 0)⟩,
  ⟨some 24, none, .mov (.t 23)⟩,
  ⟨some 25, (some (24, false)), .ldo 5 4 true (.t 5)⟩,
  ⟨some 26, (some (24, false)), .fld 1 (.t 5)⟩,
  ⟨some 27, (some (24, false)), .ldo 5 1 false (.t 26)⟩,
  ⟨some 28, (some (24, false)), .ixi 1 (.t 27) (.int .i64 0)⟩,
  ⟨some 29, (some (24, false)), .ldi 1 false (.t 28)⟩,
  ⟨some 30, (some (24, false)), .call 46 [.t 25, .t 29] []⟩,
  ⟨some 31, (some (24, false)), .len (.t 30)⟩,
  ⟨some 32, (some (24, false)), .bin .gtr (.t 31) (.int .i64 0)⟩,
  ⟨some 33, none, .pick (.t 24) (.bool true) (.t 32)⟩,
  ⟨some 19, none, .mov (.t 33)⟩]
@[simp] def c19_r7 : List AOper := [⟨some 2, none, .mov (.nil 1)⟩,
  ⟨some 3, none, .mov (.nil 1)⟩,
  ⟨some 4, none, .mov (.int .i64 142)⟩]
@[simp] def c19_r8 : List AOper := [⟨some 34, none, .fld 1 (.t 5)⟩,
  ⟨some 35, none, .ldo 5 1 false (.t 34)⟩,
  ⟨some 36, none, .ixi 1 (.t 35) (.int .i64 0)⟩,
  ⟨some 37, none, .ldi 1 false (.t 36)⟩,
  ⟨some 38, none, .mov (.int .i64 0)⟩]
@[simp] def c19_r9 : List AOper := [⟨some 39, none, .bin .lss (.t 38) (.t 37)⟩]
@[simp] def c19_r10 : List AOper := [⟨some 40, none, .mov (.t 38)⟩,
  ⟨some 6, none, .mov (.t 40)⟩]
@[simp] def c19_r11 : List AOper := [⟨some 41, none, .mov (.t 2)⟩,
  ⟨some 42, none, .fld 0 (.t 5)⟩,
  ⟨some 43, none, .ldo 5 1 false (.t 42)⟩,
  ⟨some 44, none, .mov (.t 6)⟩,
  ⟨some 45, none, .yy (.lki (some .i64) (.nil 1) (.t 43) (.t 44))⟩,
  ⟨some 46, none, .ixi 1 (.t 45) (.int .i64 0)⟩,
  ⟨some 47, none, .ldi 1 false (.t 46)⟩,
  ⟨some 48, none, .bsl 1 [.t 47]⟩,
  ⟨some 49, none, .app 2 9 1 16 (.t 41) (.t 48)⟩,
  ⟨some 2, none, .mov (.t 49)⟩]
@[simp] def c19_r12 : List AOper := [⟨some 50, none, .fld 2 (.t 5)⟩,
  ⟨some 51, none, .ldo 5 1 false (.t 50)⟩,
  ⟨some 52, none, .mov (.t 6)⟩,
  ⟨some 53, none, .yy (.lki (some .i64) (.int .i64 0) (.t 51) (.t 52))⟩,
  ⟨some 54, none, .bin .eql (.t 53) (.int .i64 0)⟩]
@[simp] def c19_r13 : List AOper := [⟨some 55, none, .mov (.t 3)⟩,
  ⟨some 56, none, .mov (.t 6)⟩,
  ⟨some 57, none, .bsl 1 [.t 56]⟩,
  ⟨some 58, none, .app 3 3 1 8 (.t 55) (.t 57)⟩,
  ⟨some 3, none, .mov (.t 58)⟩]
@[simp] def c19_r14 : List AOper := [⟨some 59, none, .bin .add (.t 38) (.int .i64 1)⟩,
  ⟨some 38, none, .mov (.t 59)⟩]
def c19_b0 : AC := .seq (.ops c19_r9 false) (.seq (.cond (.t 39) (.skip) (.exit 1)) (.seq (.block 2 (.seq (.ops c19_r10 false) (.seq (.ops c19_r11 false) (.seq (.ops c19_r12 false) (.cond (.t 54) (.ops c19_r13 false) (.skip)))))) (.ops c19_r14 false)))
@[simp] def c19_r15 : List AOper := [⟨some 60, none, .mov (.t 2)⟩,
  ⟨some 61, none, .mov (.t 3)⟩,
  ⟨some 2, none, .mov (.t 60)⟩,
  ⟨some 3, none, .mov (.t 61)⟩,
  ⟨some 4, none, .mov (.int .i64 0)⟩]
@[simp] def c19 : AFn := ⟨62, [.tmp 2, .tmp 3, .tmp 4], .seq (.ops c19_r0 false) (.seq (.ops c19_r1 false) (.seq (.block 0 (.seq (.ops c19_r2 false) (.cond (.t 12) (.seq (.ops c19_r3 false) (.ret)) (.seq (.ops c19_r4 false) (.cond (.t 16) (.seq (.ops c19_r5 false) (.ret)) (.seq (.ops c19_r6 true) (.cond (.t 19) (.seq (.ops c19_r7 false) (.ret)) (.skip)))))))) (.seq (.seq (.ops c19_r8 false) (.block 1 (.loop c19_b0 [2, 3, 5, 37, 38] [2, 3, 5]))) (.seq (.ops c19_r15 false) (.ret)))))⟩

/-- shackle shacklelaw14.joined -/
@[simp] def c20_r0 : List AOper := [⟨some 4, none, .mov (.str [])⟩]
@[simp] def c20_r1 : List AOper := [⟨some 5, none, .mov (.str [])⟩]
@[simp] def c20_r2 : List AOper := [⟨some 6, none, .mov (.int .i64 0)⟩]
@[simp] def c20_r3 : List AOper := [⟨some 7, none, .mov (.t 6)⟩,
  ⟨some 8, none, .mov (.t 0)⟩,
  ⟨some 9, none, .len (.t 8)⟩,
  ⟨some 10, none, .bin .lss (.t 7) (.t 9)⟩]
@[simp] def c20_r5 : List AOper := [⟨some 13, none, .mov (.t 1)⟩,
  ⟨some 14, none, .mov (.t 6)⟩,
  ⟨some 15, none, .ixi 1 (.t 13) (.t 14)⟩,
  ⟨some 16, none, .ldi 1 false (.t 15)⟩,
  ⟨some 17, none, .bin .eql (.t 16) (.int .i64 0)⟩]
@[simp] def c20_r6 : List AOper := [⟨some 18, none, .mov (.t 5)⟩,
  ⟨some 19, none, .mov (.t 0)⟩,
  ⟨some 20, none, .mov (.t 6)⟩,
  ⟨some 21, none, .ixi 1 (.t 19) (.t 20)⟩,
  ⟨some 22, none, .ldi 1 false (.t 21)⟩,
  ⟨some 23, none, .bin .add (.t 22) (.str [10])⟩,
  ⟨some 24, none, .bin .add (.t 18) (.t 23)⟩,
  ⟨some 5, none, .mov (.t 24)⟩]
@[simp] def c20_r4 : List AOper := [⟨some 11, none, .mov (.t 6)⟩,
  ⟨some 12, none, .bin .add (.t 11) (.int .i64 1)⟩,
  ⟨some 6, none, .mov (.t 12)⟩]
def c20_b0 : AC := .seq (.seq (.ops c20_r3 false) (.cond (.t 10) (.skip) (.exit 0))) (.seq (.block 1 (.seq (.ops c20_r5 false) (.cond (.t 17) (.ops c20_r6 false) (.skip)))) (.ops c20_r4 false))
@[simp] def c20_r7 : List AOper := [⟨some 25, none, .mov (.t 5)⟩,
  ⟨some 4, none, .mov (.t 25)⟩]
@[simp] def c20 : AFn := ⟨26, [.tmp 4], .seq (.ops c20_r0 false) (.seq (.ops c20_r1 false) (.seq (.seq (.ops c20_r2 false) (.block 0 (.loop c20_b0 [0, 1, 5, 6] []))) (.seq (.ops c20_r7 false) (.ret))))⟩

/-- shackle books.Bad -/
@[simp] def c21_r0 : List AOper := [⟨some 2, none, .mov (.nil 1)⟩,
  ⟨some 3, none, .mov (.int .i64 0)⟩]
@[simp] def c21_r1 : List AOper := [⟨some 7, none, .mov (.t 0)⟩,
  ⟨some 8, none, .call 44 [.t 7] []⟩,
  ⟨some 6, none, .mov (.t 8)⟩,
  ⟨some 9, none, .ext (.t 6) 0⟩,
  ⟨some 10, none, .ext (.t 6) 1⟩,
  ⟨some 4, none, .alo 4 [.nilm, .nil 1, .nilm, .nil 1]⟩,
  ⟨none, none, .sto 4 4 (.t 4) (.t 9)⟩,
  ⟨some 5, none, .mov (.t 10)⟩]
@[simp] def c21_r2 : List AOper := [⟨some 11, none, .fld 3 (.t 4)⟩,
  ⟨some 12, none, .ldo 4 1 false (.t 11)⟩,
  ⟨some 13, none, .mov (.t 5)⟩,
  ⟨some 2, none, .mov (.t 12)⟩,
  ⟨some 3, none, .mov (.t 13)⟩]
@[simp] def c21 : AFn := ⟨14, [.tmp 2, .tmp 3], .seq (.ops c21_r0 false) (.seq (.ops c21_r1 false) (.seq (.ops c21_r2 false) (.ret)))⟩

/-- shackle shacklelaw02.SameInts -/
@[simp] def c22_r0 : List AOper := [⟨some 4, none, .mov (.bool false)⟩]
@[simp] def c22_r1 : List AOper := [⟨some 6, none, .mov (.t 0)⟩,
  ⟨some 7, none, .len (.t 6)⟩,
  ⟨some 8, none, .mov (.t 1)⟩,
  ⟨some 9, none, .len (.t 8)⟩,
  ⟨some 10, none, .bin .neq (.t 7) (.t 9)⟩]
@[simp] def c22_r2 : List AOper := [⟨some 4, none, .mov (.bool false)⟩]
@[simp] def c22_r3 : List AOper := [⟨some 5, none, .mov (.int .i64 0)⟩]
@[simp] def c22_r4 : List AOper := [⟨some 11, none, .mov (.t 5)⟩,
  ⟨some 12, none, .mov (.t 0)⟩,
  ⟨some 13, none, .len (.t 12)⟩,
  ⟨some 14, none, .bin .lss (.t 11) (.t 13)⟩]
@[simp] def c22_r6 : List AOper := [⟨some 17, none, .mov (.t 0)⟩,
  ⟨some 18, none, .mov (.t 5)⟩,
  ⟨some 19, none, .ixi 1 (.t 17) (.t 18)⟩,
  ⟨some 20, none, .ldi 1 false (.t 19)⟩,
  ⟨some 21, none, .mov (.t 1)⟩,
  ⟨some 22, none, .mov (.t 5)⟩,
  ⟨some 23, none, .ixi 1 (.t 21) (.t 22)⟩,
  ⟨some 24, none, .ldi 1 false (.t 23)⟩,
  ⟨some 25, none, .bin .neq (.t 20) (.t 24)⟩]
@[simp] def c22_r7 : List AOper := [⟨some 4, none, .mov (.bool false)⟩]
@[simp] def c22_r5 : List AOper := [⟨some 15, none, .mov (.t 5)⟩,
  ⟨some 16, none, .bin .add (.t 15) (.int .i64 1)⟩,
  ⟨some 5, none, .mov (.t 16)⟩]
def c22_b0 : AC := .seq (.seq (.ops c22_r4 false) (.cond (.t 14) (.skip) (.exit 0))) (.seq (.block 1 (.seq (.ops c22_r6 true) (.cond (.t 25) (.seq (.ops c22_r7 false) (.ret)) (.skip)))) (.ops c22_r5 false))
@[simp] def c22_r8 : List AOper := [⟨some 4, none, .mov (.bool true)⟩]
@[simp] def c22 : AFn := ⟨26, [.tmp 4], .seq (.ops c22_r0 false) (.seq (.seq (.ops c22_r1 false) (.cond (.t 10) (.seq (.ops c22_r2 false) (.ret)) (.skip))) (.seq (.seq (.ops c22_r3 false) (.block 0 (.loop c22_b0 [0, 1, 5] []))) (.seq (.ops c22_r8 false) (.ret))))⟩

/-- shackle shackleref14.RowOf -/
@[simp] def c23_r0 : List AOper := [⟨some 2, none, .mov (.str [])⟩,
  ⟨some 3, none, .mov (.bool false)⟩]
@[simp] def c23_r1 : List AOper := [⟨some 11, none, .mov (.t 0)⟩,
  ⟨some 12, none, .lst (.t 11)⟩,
  ⟨some 13, none, .bin .lss (.t 12) (.int .i64 6)⟩]
@[simp] def c23_r2 : List AOper := [⟨some 2, none, .mov (.str [])⟩,
  ⟨some 3, none, .mov (.bool false)⟩]
@[simp] def c23_r3 : List AOper := [⟨some 14, none, .mov (.t 0)⟩,
  ⟨some 15, none, .mov (.t 0)⟩,
  ⟨some 16, none, .lst (.t 15)⟩,
  ⟨some 17, none, .bin .sub (.t 16) (.int .i64 4)⟩,
  ⟨some 18, none, .sls (.t 14) none (some (.t 17))⟩,
  ⟨some 4, none, .mov (.t 18)⟩]
@[simp] def c23_r4 : List AOper := [⟨some 19, none, .mov (.t 0)⟩,
  ⟨some 20, none, .mov (.t 4)⟩,
  ⟨some 21, none, .call 47 [.t 19, .t 20] []⟩]
@[simp] def c23_r5 : List AOper := [⟨some 22, none, .mov (.t 4)⟩,
  ⟨some 2, none, .mov (.t 22)⟩,
  ⟨some 3, none, .mov (.bool true)⟩]
@[simp] def c23_r6 : List AOper := [⟨some 23, none, .mov (.t 0)⟩,
  ⟨some 24, none, .mov (.t 4)⟩,
  ⟨some 25, none, .lst (.t 24)⟩,
  ⟨some 26, none, .mov (.t 4)⟩,
  ⟨some 27, none, .lst (.t 26)⟩,
  ⟨some 28, none, .bin .add (.t 27) (.int .i64 2)⟩,
  ⟨some 29, none, .sls (.t 23) (some (.t 25)) (some (.t 28))⟩,
  ⟨some 30, none, .call 48 [.t 29] []⟩,
  ⟨some 5, none, .mov (.t 30)⟩]
@[simp] def c23_r7 : List AOper := [⟨some 31, none, .mov (.t 5)⟩,
  ⟨some 32, none, .bin .lss (.t 31) (.int .i64 0)⟩]
@[simp] def c23_r8 : List AOper := [⟨some 2, none, .mov (.str [])⟩,
  ⟨some 3, none, .mov (.bool false)⟩]
@[simp] def c23_r9 : List AOper := [⟨some 6, none, .mov (.int .i64 0)⟩]
@[simp] def c23_r10 : List AOper := [⟨some 33, none, .mov (.t 6)⟩,
  ⟨some 34, none, .mov (.t 4)⟩,
  ⟨some 35, none, .lst (.t 34)⟩,
  ⟨some 36, none, .bin .lss (.t 33) (.t 35)⟩]
@[simp] def c23_r12 : List AOper := [⟨some 40, none, .mov (.t 4)⟩,
  ⟨some 41, none, .mov (.t 6)⟩,
  ⟨some 42, none, .sls (.t 40) none (some (.t 41))⟩,
  ⟨some 43, none, .bin .add (.t 42) (.str [32])⟩,
  ⟨some 44, none, .mov (.t 4)⟩,
  ⟨some 45, none, .mov (.t 6)⟩,
  ⟨some 46, none, .bin .add (.t 45) (.int .i64 1)⟩,
  ⟨some 47, none, .sls (.t 44) (some (.t 46)) none⟩,
  ⟨some 48, none, .bin .add (.t 43) (.t 47)⟩,
  ⟨some 49, none, .call 49 [.t 48] []⟩,
  ⟨some 39, none, .mov (.t 49)⟩,
  ⟨some 50, none, .ext (.t 39) 0⟩,
  ⟨some 51, none, .ext (.t 39) 1⟩,
  ⟨some 7, none, .mov (.t 50)⟩,
  ⟨some 8, none, .mov (.t 51)⟩]
@[simp] def c23_r13 : List AOper := [⟨some 52, none, .mov (.t 5)⟩,
  ⟨some 53, none, .mov (.t 7)⟩,
  ⟨some 54, none, .bin .sub (.t 52) (.t 53)⟩,
  ⟨some 55, none, .bin .rem (.t 54) (.int .i64 97)⟩,
  ⟨some 56, none, .bin .add (.t 55) (.int .i64 97)⟩,
  ⟨some 57, none, .bin .rem (.t 56) (.int .i64 97)⟩,
  ⟨some 9, none, .mov (.t 57)⟩]
@[simp] def c23_r14 : List AOper := [⟨some 58, none, .mov (.t 4)⟩,
  ⟨some 59, none, .mov (.t 6)⟩,
  ⟨some 60, none, .sls (.t 58) none (some (.t 59))⟩,
  ⟨some 61, none, .mov (.t 9)⟩,
  ⟨some 62, none, .bin .add (.int .i64 32) (.t 61)⟩,
  ⟨some 63, none, .cvi .u8 (.t 62)⟩,
  ⟨some 64, none, .bsl 1 [.t 63]⟩,
  ⟨some 65, none, .b2s (.t 64)⟩,
  ⟨some 66, none, .bin .add (.t 60) (.t 65)⟩,
  ⟨some 67, none, .mov (.t 4)⟩,
  ⟨some 68, none, .mov (.t 6)⟩,
  ⟨some 69, none, .bin .add (.t 68) (.int .i64 1)⟩,
  ⟨some 70, none, .sls (.t 67) (some (.t 69)) none⟩,
  ⟨some 71, none, .bin .add (.t 66) (.t 70)⟩,
  ⟨some 10, none, .mov (.t 71)⟩]
@[simp] def c23_r15 : List AOper := [⟨some 72, none, .mov (.t 0)⟩,
  ⟨some 73, none, .mov (.t 10)⟩,
  ⟨some 74, none, .call 47 [.t 72, .t 73] []⟩]
@[simp] def c23_r16 : List AOper := [⟨some 75, none, .mov (.t 10)⟩,
  ⟨some 2, none, .mov (.t 75)⟩,
  ⟨some 3, none, .mov (.bool true)⟩]
@[simp] def c23_r11 : List AOper := [⟨some 37, none, .mov (.t 6)⟩,
  ⟨some 38, none, .bin .add (.t 37) (.int .i64 1)⟩,
  ⟨some 6, none, .mov (.t 38)⟩]
def c23_b0 : AC := .seq (.seq (.ops c23_r10 false) (.cond (.t 36) (.skip) (.exit 0))) (.seq (.block 1 (.seq (.ops c23_r12 true) (.seq (.ops c23_r13 false) (.seq (.ops c23_r14 true) (.seq (.ops c23_r15 false) (.cond (.t 74) (.seq (.ops c23_r16 false) (.ret)) (.skip))))))) (.ops c23_r11 false))
@[simp] def c23_r17 : List AOper := [⟨some 2, none, .mov (.str [])⟩,
  ⟨some 3, none, .mov (.bool false)⟩]
@[simp] def c23 : AFn := ⟨76, [.tmp 2, .tmp 3], .seq (.ops c23_r0 false) (.seq (.seq (.ops c23_r1 false) (.cond (.t 13) (.seq (.ops c23_r2 false) (.ret)) (.skip))) (.seq (.ops c23_r3 false) (.seq (.seq (.ops c23_r4 false) (.cond (.t 21) (.seq (.ops c23_r5 false) (.ret)) (.skip))) (.seq (.ops c23_r6 false) (.seq (.seq (.ops c23_r7 false) (.cond (.t 32) (.seq (.ops c23_r8 false) (.ret)) (.skip))) (.seq (.seq (.ops c23_r9 false) (.block 0 (.loop c23_b0 [0, 4, 5, 6] []))) (.seq (.ops c23_r17 false) (.ret))))))))⟩

/-- shackle shackleref14.Cut -/
@[simp] def c24_r0 : List AOper := [⟨some 2, none, .mov (.nil 1)⟩,
  ⟨some 3, none, .mov (.bool false)⟩]
@[simp] def c24_r1 : List AOper := [⟨some 7, none, .mov (.t 0)⟩,
  ⟨some 8, none, .lst (.t 7)⟩,
  ⟨some 9, none, .bin .eql (.t 8) (.int .i64 0)⟩,
  ⟨some 10, none, .mov (.t 9)⟩,
  ⟨some 11, (some (10, false)), .mov (.t 0)⟩,
  ⟨some 12, (some (10, false)), .mov (.t 0)⟩,
  ⟨some 13, (some (10, false)), .lst (.t 12)⟩,
  ⟨some 14, (some (10, false)), .bin .sub (.t 13) (.int .i64 1)⟩,
  ⟨some 15, (some (10, false)), .ixs (.t 11) (.t 14)⟩,
  ⟨some 16, (some (10, false)), .bin .neq (.t 15) (.int .u8 10)⟩,
  ⟨some 17, none, .pick (.t 10) (.bool true) (.t 16)⟩]
@[simp] def c24_r2 : List AOper := [⟨some 2, none, .mov (.nil 1)⟩,
  ⟨some 3, none, .mov (.bool false)⟩]
@[simp] def c24_r3 : List AOper := [⟨some 4, none, .nilo 4 9 1⟩]
@[simp] def c24_r4 : List AOper := [⟨some 5, none, .mov (.int .i64 0)⟩]
@[simp] def c24_r5 : List AOper := [⟨some 6, none, .mov (.int .i64 0)⟩]
@[simp] def c24_r6 : List AOper := [⟨some 18, none, .mov (.t 6)⟩,
  ⟨some 19, none, .mov (.t 0)⟩,
  ⟨some 20, none, .lst (.t 19)⟩,
  ⟨some 21, none, .bin .lss (.t 18) (.t 20)⟩]
@[simp] def c24_r8 : List AOper := [⟨some 24, none, .mov (.t 0)⟩,
  ⟨some 25, none, .mov (.t 6)⟩,
  ⟨some 26, none, .ixs (.t 24) (.t 25)⟩,
  ⟨some 27, none, .bin .eql (.t 26) (.int .u8 10)⟩]
@[simp] def c24_r9 : List AOper := [⟨some 28, none, .mov (.t 4)⟩,
  ⟨some 29, none, .mov (.t 0)⟩,
  ⟨some 30, none, .mov (.t 5)⟩,
  ⟨some 31, none, .mov (.t 6)⟩,
  ⟨some 32, none, .sls (.t 29) (some (.t 30)) (some (.t 31))⟩,
  ⟨some 33, none, .bsl 1 [.t 32]⟩,
  ⟨some 34, none, .app 4 9 1 16 (.t 28) (.t 33)⟩,
  ⟨some 4, none, .mov (.t 34)⟩]
@[simp] def c24_r10 : List AOper := [⟨some 35, none, .mov (.t 6)⟩,
  ⟨some 36, none, .bin .add (.t 35) (.int .i64 1)⟩,
  ⟨some 5, none, .mov (.t 36)⟩]
@[simp] def c24_r7 : List AOper := [⟨some 22, none, .mov (.t 6)⟩,
  ⟨some 23, none, .bin .add (.t 22) (.int .i64 1)⟩,
  ⟨some 6, none, .mov (.t 23)⟩]
def c24_b0 : AC := .seq (.seq (.ops c24_r6 false) (.cond (.t 21) (.skip) (.exit 0))) (.seq (.block 1 (.seq (.ops c24_r8 false) (.cond (.t 27) (.seq (.ops c24_r9 false) (.ops c24_r10 false)) (.skip)))) (.ops c24_r7 false))
@[simp] def c24_r11 : List AOper := [⟨some 37, none, .mov (.t 4)⟩,
  ⟨some 2, none, .mov (.t 37)⟩,
  ⟨some 3, none, .mov (.bool true)⟩]
@[simp] def c24 : AFn := ⟨38, [.tmp 2, .tmp 3], .seq (.ops c24_r0 false) (.seq (.seq (.ops c24_r1 false) (.cond (.t 17) (.seq (.ops c24_r2 false) (.ret)) (.skip))) (.seq (.ops c24_r3 false) (.seq (.ops c24_r4 false) (.seq (.seq (.ops c24_r5 false) (.block 0 (.loop c24_b0 [0, 4, 5, 6] [4]))) (.seq (.ops c24_r11 false) (.ret))))))⟩

/-- shackle shacklelaw14.crowded -/
@[simp] def c25_r0 : List AOper := [⟨some 2, none, .mov (.bool false)⟩]
@[simp] def c25_r1 : List AOper := [⟨some 3, none, .mov (.int .i64 0)⟩]
@[simp] def c25_r2 : List AOper := [⟨some 4, none, .mov (.int .i64 0)⟩]
@[simp] def c25_r3 : List AOper := [⟨some 5, none, .mov (.t 4)⟩,
  ⟨some 6, none, .mov (.t 0)⟩,
  ⟨some 7, none, .lst (.t 6)⟩,
  ⟨some 8, none, .bin .lss (.t 5) (.t 7)⟩]
@[simp] def c25_r5 : List AOper := [⟨some 11, none, .mov (.t 0)⟩,
  ⟨some 12, none, .mov (.t 4)⟩,
  ⟨some 13, none, .ixs (.t 11) (.t 12)⟩,
  ⟨some 14, none, .bin .eql (.t 13) (.int .u8 10)⟩]
@[simp] def c25_r6 : List AOper := [⟨some 15, none, .mov (.t 3)⟩,
  ⟨some 16, none, .bin .add (.t 15) (.int .i64 1)⟩,
  ⟨some 3, none, .mov (.t 16)⟩]
@[simp] def c25_r4 : List AOper := [⟨some 9, none, .mov (.t 4)⟩,
  ⟨some 10, none, .bin .add (.t 9) (.int .i64 1)⟩,
  ⟨some 4, none, .mov (.t 10)⟩]
def c25_b0 : AC := .seq (.seq (.ops c25_r3 false) (.cond (.t 8) (.skip) (.exit 0))) (.seq (.block 1 (.seq (.ops c25_r5 false) (.cond (.t 14) (.ops c25_r6 false) (.skip)))) (.ops c25_r4 false))
@[simp] def c25_r7 : List AOper := [⟨some 17, none, .mov (.t 3)⟩,
  ⟨some 18, none, .bin .gtr (.t 17) (.int .i64 90)⟩,
  ⟨some 2, none, .mov (.t 18)⟩]
@[simp] def c25 : AFn := ⟨19, [.tmp 2], .seq (.ops c25_r0 false) (.seq (.ops c25_r1 false) (.seq (.seq (.ops c25_r2 false) (.block 0 (.loop c25_b0 [0, 3, 4] []))) (.seq (.ops c25_r7 false) (.ret))))⟩

/-- shackle books.Join -/
@[simp] def c26_r0 : List AOper := [⟨some 4, none, .mov (.nil 1)⟩,
  ⟨some 5, none, .mov (.int .i64 0)⟩]
@[simp] def c26_r1 : List AOper := [⟨some 13, none, .mov (.t 0)⟩,
  ⟨some 14, none, .mov (.t 1)⟩,
  ⟨some 15, none, .yy (.bla [.str [], .str []] [.t 13, .t 14])⟩,
  ⟨some 16, none, .mov (.int .i64 0)⟩]
@[simp] def c26_r2 : List AOper := [⟨some 17, none, .bin .lss (.t 16) (.int .i64 2)⟩]
@[simp] def c26_r3 : List AOper := [⟨some 18, none, .yy (.ixg 2 (.t 15) (.t 16))⟩,
  ⟨some 7, none, .mov (.t 18)⟩]
@[simp] def c26_r4 : List AOper := [⟨some 20, none, .mov (.t 7)⟩,
  ⟨some 21, none, .call 50 [.t 20] []⟩,
  ⟨some 19, none, .mov (.t 21)⟩,
  ⟨some 22, none, .ext (.t 19) 0⟩,
  ⟨some 23, none, .ext (.t 19) 1⟩,
  ⟨some 8, none, .mov (.t 22)⟩,
  ⟨some 9, none, .mov (.t 23)⟩]
@[simp] def c26_r5 : List AOper := [⟨some 24, none, .mov (.t 9)⟩,
  ⟨some 25, none, .not (.t 24)⟩]
@[simp] def c26_r6 : List AOper := [⟨some 4, none, .mov (.nil 1)⟩,
  ⟨some 5, none, .mov (.int .i64 140)⟩]
@[simp] def c26_r7 : List AOper := [⟨some 26, none, .bin .add (.t 16) (.int .i64 1)⟩,
  ⟨some 16, none, .mov (.t 26)⟩]
def c26_b0 : AC := .seq (.ops c26_r2 false) (.seq (.cond (.t 17) (.skip) (.exit 0)) (.seq (.block 1 (.seq (.ops c26_r3 false) (.seq (.ops c26_r4 false) (.seq (.ops c26_r5 false) (.cond (.t 25) (.seq (.ops c26_r6 false) (.ret)) (.skip)))))) (.ops c26_r7 false)))
@[simp] def c26_r8 : List AOper := [⟨some 28, none, .mov (.t 0)⟩,
  ⟨some 29, none, .mov (.t 1)⟩,
  ⟨some 30, none, .bin .add (.t 28) (.t 29)⟩,
  ⟨some 31, none, .call 19 [.t 30] []⟩,
  ⟨some 27, none, .mov (.t 31)⟩,
  ⟨some 32, none, .ext (.t 27) 0⟩,
  ⟨some 33, none, .ext (.t 27) 1⟩,
  ⟨some 34, none, .ext (.t 27) 2⟩,
  ⟨some 10, none, .mov (.t 32)⟩,
  ⟨some 11, none, .mov (.t 33)⟩,
  ⟨some 12, none, .mov (.t 34)⟩]
@[simp] def c26_r9 : List AOper := [⟨some 35, none, .mov (.t 10)⟩,
  ⟨some 36, none, .mov (.t 12)⟩,
  ⟨some 4, none, .mov (.t 35)⟩,
  ⟨some 5, none, .mov (.t 36)⟩]
@[simp] def c26 : AFn := ⟨37, [.tmp 4, .tmp 5], .seq (.ops c26_r0 false) (.seq (.seq (.ops c26_r1 false) (.block 0 (.loop c26_b0 [0, 1, 15, 16] []))) (.seq (.ops c26_r8 false) (.seq (.ops c26_r9 false) (.ret))))⟩

/-- shackle shackleref14.Join -/
@[simp] def c27_r0 : List AOper := [⟨some 4, none, .mov (.nil 1)⟩,
  ⟨some 5, none, .mov (.int .i64 0)⟩]
@[simp] def c27_r1 : List AOper := [⟨some 14, none, .mov (.t 0)⟩,
  ⟨some 15, none, .call 24 [.t 14] []⟩,
  ⟨some 13, none, .mov (.t 15)⟩,
  ⟨some 16, none, .ext (.t 13) 0⟩,
  ⟨some 17, none, .ext (.t 13) 1⟩,
  ⟨some 6, none, .mov (.t 16)⟩,
  ⟨some 7, none, .mov (.t 17)⟩]
@[simp] def c27_r2 : List AOper := [⟨some 19, none, .mov (.t 1)⟩,
  ⟨some 20, none, .call 24 [.t 19] []⟩,
  ⟨some 18, none, .mov (.t 20)⟩,
  ⟨some 21, none, .ext (.t 18) 0⟩,
  ⟨some 22, none, .ext (.t 18) 1⟩,
  ⟨some 8, none, .mov (.t 21)⟩,
  ⟨some 9, none, .mov (.t 22)⟩]
@[simp] def c27_r3 : List AOper := [⟨some 23, none, .mov (.t 7)⟩,
  ⟨some 24, none, .not (.t 23)⟩,
  ⟨some 25, none, .mov (.t 24)⟩,
  ⟨some 26, (some (25, false)), .mov (.t 9)⟩,
  ⟨some 27, (some (25, false)), .not (.t 26)⟩,
  ⟨some 28, none, .pick (.t 25) (.bool true) (.t 27)⟩]
@[simp] def c27_r4 : List AOper := [⟨some 4, none, .mov (.nil 1)⟩,
  ⟨some 5, none, .mov (.int .i64 140)⟩]
@[simp] def c27_r5 : List AOper := [⟨some 30, none, .mov (.t 0)⟩,
  ⟨some 31, none, .mov (.t 1)⟩,
  ⟨some 32, none, .bin .add (.t 30) (.t 31)⟩,
  ⟨some 33, none, .call 32 [.t 32] []⟩,
  ⟨some 29, none, .mov (.t 33)⟩,
  ⟨some 34, none, .ext (.t 29) 0⟩,
  ⟨some 35, none, .ext (.t 29) 1⟩,
  ⟨some 36, none, .ext (.t 29) 2⟩,
  ⟨some 10, none, .mov (.t 34)⟩,
  ⟨some 11, none, .mov (.t 35)⟩,
  ⟨some 12, none, .mov (.t 36)⟩]
@[simp] def c27_r6 : List AOper := [⟨some 37, none, .mov (.t 10)⟩,
  ⟨some 38, none, .mov (.t 12)⟩,
  ⟨some 4, none, .mov (.t 37)⟩,
  ⟨some 5, none, .mov (.t 38)⟩]
@[simp] def c27 : AFn := ⟨39, [.tmp 4, .tmp 5], .seq (.ops c27_r0 false) (.seq (.ops c27_r1 false) (.seq (.ops c27_r2 false) (.seq (.seq (.ops c27_r3 false) (.cond (.t 28) (.seq (.ops c27_r4 false) (.ret)) (.skip))) (.seq (.ops c27_r5 false) (.seq (.ops c27_r6 false) (.ret))))))⟩

/-- shackle books.Lost -/
@[simp] def c28_r0 : List AOper := [⟨some 2, none, .mov (.nil 1)⟩,
  ⟨some 3, none, .mov (.int .i64 0)⟩]
@[simp] def c28_r1 : List AOper := [⟨some 7, none, .mov (.t 0)⟩,
  ⟨some 8, none, .call 44 [.t 7] []⟩,
  ⟨some 6, none, .mov (.t 8)⟩,
  ⟨some 9, none, .ext (.t 6) 0⟩,
  ⟨some 10, none, .ext (.t 6) 1⟩,
  ⟨some 4, none, .alo 4 [.nilm, .nil 1, .nilm, .nil 1]⟩,
  ⟨none, none, .sto 4 4 (.t 4) (.t 9)⟩,
  ⟨some 5, none, .mov (.t 10)⟩]
@[simp] def c28_r2 : List AOper := [⟨some 11, none, .mov (.t 5)⟩,
  ⟨some 12, none, .bin .neq (.t 11) (.int .i64 0)⟩]
@[simp] def c28_r3 : List AOper := [⟨some 13, none, .mov (.t 5)⟩,
  ⟨some 2, none, .mov (.nil 1)⟩,
  ⟨some 3, none, .mov (.t 13)⟩]
@[simp] def c28_r4 : List AOper := [⟨some 14, none, .fld 1 (.t 4)⟩,
  ⟨some 15, none, .ldo 4 1 false (.t 14)⟩,
  ⟨some 16, none, .len (.t 15)⟩,
  ⟨some 17, none, .bin .eql (.t 16) (.int .i64 0)⟩]
@[simp] def c28_r5 : List AOper := [⟨some 2, none, .mov (.nil 1)⟩,
  ⟨some 3, none, .mov (.int .i64 142)⟩]
@[simp] def c28_r6 : List AOper := [⟨some 18, none, .ldo 4 4 true (.t 4)⟩,
  ⟨some 19, none, .fld 1 (.t 4)⟩,
  ⟨some 20, none, .ldo 4 1 false (.t 19)⟩,
  ⟨some 21, none, .call 51 [.t 20] []⟩,
  ⟨some 22, none, .call 46 [.t 18, .t 21] []⟩,
  ⟨some 2, none, .mov (.t 22)⟩,
  ⟨some 3, none, .mov (.int .i64 0)⟩]
@[simp] def c28 : AFn := ⟨23, [.tmp 2, .tmp 3], .seq (.ops c28_r0 false) (.seq (.ops c28_r1 false) (.seq (.seq (.ops c28_r2 false) (.cond (.t 12) (.seq (.ops c28_r3 false) (.ret)) (.skip))) (.seq (.seq (.ops c28_r4 false) (.cond (.t 17) (.seq (.ops c28_r5 false) (.ret)) (.skip))) (.seq (.ops c28_r6 true) (.ret)))))⟩

/-- shackle shackleref14.LineOf -/
@[simp] def c29_r0 : List AOper := [⟨some 2, none, .mov (.str [])⟩]
@[simp] def c29_r1 : List AOper := [⟨some 6, none, .mov (.t 0)⟩,
  ⟨some 7, none, .call 49 [.t 6] []⟩,
  ⟨some 5, none, .mov (.t 7)⟩,
  ⟨some 8, none, .ext (.t 5) 0⟩,
  ⟨some 9, none, .ext (.t 5) 1⟩,
  ⟨some 3, none, .mov (.t 8)⟩,
  ⟨some 4, none, .mov (.t 9)⟩]
@[simp] def c29_r2 : List AOper := [⟨some 10, none, .mov (.t 0)⟩,
  ⟨some 11, none, .mov (.t 3)⟩,
  ⟨some 12, none, .call 52 [.t 11] []⟩,
  ⟨some 13, none, .bin .add (.t 10) (.t 12)⟩,
  ⟨some 14, none, .mov (.t 4)⟩,
  ⟨some 15, none, .call 52 [.t 14] []⟩,
  ⟨some 16, none, .bin .add (.t 13) (.t 15)⟩,
  ⟨some 2, none, .mov (.t 16)⟩]
@[simp] def c29 : AFn := ⟨17, [.tmp 2], .seq (.ops c29_r0 false) (.seq (.ops c29_r1 false) (.seq (.ops c29_r2 false) (.ret)))⟩

/-- shackle shackleref14.Row -/
@[simp] def c30_r0 : List AOper := [⟨some 4, none, .mov (.str [])⟩]
@[simp] def c30_r1 : List AOper := [⟨some 5, none, .mov (.t 0)⟩,
  ⟨some 6, none, .call 52 [.t 5] []⟩,
  ⟨some 7, none, .mov (.t 1)⟩,
  ⟨some 8, none, .bin .add (.t 6) (.t 7)⟩,
  ⟨some 4, none, .mov (.t 8)⟩]
@[simp] def c30 : AFn := ⟨9, [.tmp 4], .seq (.ops c30_r0 false) (.seq (.ops c30_r1 false) (.ret))⟩

/-- shackle shackleref02.In -/
@[simp] def c31_r0 : List AOper := [⟨some 4, none, .mov (.bool false)⟩]
@[simp] def c31_r1 : List AOper := [⟨some 5, none, .mov (.int .i64 0)⟩]
@[simp] def c31_r2 : List AOper := [⟨some 6, none, .mov (.t 5)⟩,
  ⟨some 7, none, .mov (.t 0)⟩,
  ⟨some 8, none, .len (.t 7)⟩,
  ⟨some 9, none, .bin .lss (.t 6) (.t 8)⟩]
@[simp] def c31_r4 : List AOper := [⟨some 12, none, .mov (.t 0)⟩,
  ⟨some 13, none, .mov (.t 5)⟩,
  ⟨some 14, none, .ixi 1 (.t 12) (.t 13)⟩,
  ⟨some 15, none, .ldi 1 false (.t 14)⟩,
  ⟨some 16, none, .mov (.t 1)⟩,
  ⟨some 17, none, .bin .eql (.t 15) (.t 16)⟩]
@[simp] def c31_r5 : List AOper := [⟨some 4, none, .mov (.bool true)⟩]
@[simp] def c31_r3 : List AOper := [⟨some 10, none, .mov (.t 5)⟩,
  ⟨some 11, none, .bin .add (.t 10) (.int .i64 1)⟩,
  ⟨some 5, none, .mov (.t 11)⟩]
def c31_b0 : AC := .seq (.seq (.ops c31_r2 false) (.cond (.t 9) (.skip) (.exit 0))) (.seq (.block 1 (.seq (.ops c31_r4 false) (.cond (.t 17) (.seq (.ops c31_r5 false) (.ret)) (.skip)))) (.ops c31_r3 false))
@[simp] def c31_r6 : List AOper := [⟨some 4, none, .mov (.bool false)⟩]
@[simp] def c31 : AFn := ⟨18, [.tmp 4], .seq (.ops c31_r0 false) (.seq (.seq (.ops c31_r1 false) (.block 0 (.loop c31_b0 [0, 1, 5] []))) (.seq (.ops c31_r6 false) (.ret)))⟩

/-- shackle shackleref14.Read -/
@[simp] def c32_r0 : List AOper := [⟨some 2, none, .mov (.nil 1)⟩,
  ⟨some 3, none, .mov (.nil 1)⟩,
  ⟨some 4, none, .mov (.int .i64 0)⟩]
@[simp] def c32_r1 : List AOper := [⟨some 8, none, .mov (.t 0)⟩,
  ⟨some 9, none, .call 24 [.t 8] []⟩,
  ⟨some 7, none, .mov (.t 9)⟩,
  ⟨some 10, none, .ext (.t 7) 0⟩,
  ⟨some 11, none, .ext (.t 7) 1⟩,
  ⟨some 5, none, .mov (.t 10)⟩,
  ⟨some 6, none, .mov (.t 11)⟩]
@[simp] def c32_r2 : List AOper := [⟨some 12, none, .mov (.t 6)⟩,
  ⟨some 13, none, .not (.t 12)⟩]
@[simp] def c32_r3 : List AOper := [⟨some 2, none, .mov (.nil 1)⟩,
  ⟨some 3, none, .mov (.nil 1)⟩,
  ⟨some 4, none, .mov (.int .i64 140)⟩]
@[simp] def c32_r4 : List AOper := [⟨some 14, none, .mov (.t 5)⟩,
  ⟨some 15, none, .call 53 [.t 14] []⟩,
  ⟨some 16, none, .ext (.t 15) 0⟩,
  ⟨some 17, none, .ext (.t 15) 1⟩,
  ⟨some 18, none, .ext (.t 15) 2⟩,
  ⟨some 2, none, .mov (.t 16)⟩,
  ⟨some 3, none, .mov (.t 17)⟩,
  ⟨some 4, none, .mov (.t 18)⟩]
@[simp] def c32 : AFn := ⟨19, [.tmp 2, .tmp 3, .tmp 4], .seq (.ops c32_r0 false) (.seq (.ops c32_r1 false) (.seq (.seq (.ops c32_r2 false) (.cond (.t 13) (.seq (.ops c32_r3 false) (.ret)) (.skip))) (.seq (.ops c32_r4 false) (.ret))))⟩

/-- shackle books.Mend -/
@[simp] def c33_r0 : List AOper := [⟨some 2, none, .mov (.str [])⟩,
  ⟨some 3, none, .mov (.int .i64 0)⟩]
@[simp] def c33_r1 : List AOper := [⟨some 8, none, .mov (.t 0)⟩,
  ⟨some 9, none, .call 19 [.t 8] []⟩,
  ⟨some 7, none, .mov (.t 9)⟩,
  ⟨some 10, none, .ext (.t 7) 0⟩,
  ⟨some 11, none, .ext (.t 7) 1⟩,
  ⟨some 12, none, .ext (.t 7) 2⟩,
  ⟨some 4, none, .mov (.t 10)⟩,
  ⟨some 5, none, .mov (.t 11)⟩,
  ⟨some 6, none, .mov (.t 12)⟩]
@[simp] def c33_r2 : List AOper := [⟨some 13, none, .mov (.t 6)⟩,
  ⟨some 14, none, .bin .neq (.t 13) (.int .i64 0)⟩]
@[simp] def c33_r3 : List AOper := [⟨some 15, none, .mov (.t 6)⟩,
  ⟨some 2, none, .mov (.str [])⟩,
  ⟨some 3, none, .mov (.t 15)⟩]
@[simp] def c33_r4 : List AOper := [⟨some 16, none, .mov (.t 4)⟩,
  ⟨some 17, none, .call 14 [.t 16] []⟩,
  ⟨some 18, none, .ext (.t 17) 0⟩,
  ⟨some 19, none, .ext (.t 17) 1⟩,
  ⟨some 2, none, .mov (.t 18)⟩,
  ⟨some 3, none, .mov (.t 19)⟩]
@[simp] def c33 : AFn := ⟨20, [.tmp 2, .tmp 3], .seq (.ops c33_r0 false) (.seq (.ops c33_r1 false) (.seq (.seq (.ops c33_r2 false) (.cond (.t 14) (.seq (.ops c33_r3 false) (.ret)) (.skip))) (.seq (.ops c33_r4 false) (.ret))))⟩

/-- shackle shackleref14.Mend -/
@[simp] def c34_r0 : List AOper := [⟨some 2, none, .mov (.str [])⟩,
  ⟨some 3, none, .mov (.int .i64 0)⟩]
@[simp] def c34_r1 : List AOper := [⟨some 8, none, .mov (.t 0)⟩,
  ⟨some 9, none, .call 32 [.t 8] []⟩,
  ⟨some 7, none, .mov (.t 9)⟩,
  ⟨some 10, none, .ext (.t 7) 0⟩,
  ⟨some 11, none, .ext (.t 7) 1⟩,
  ⟨some 12, none, .ext (.t 7) 2⟩,
  ⟨some 4, none, .mov (.t 10)⟩,
  ⟨some 5, none, .mov (.t 11)⟩,
  ⟨some 6, none, .mov (.t 12)⟩]
@[simp] def c34_r2 : List AOper := [⟨some 13, none, .mov (.t 6)⟩,
  ⟨some 14, none, .bin .neq (.t 13) (.int .i64 0)⟩]
@[simp] def c34_r3 : List AOper := [⟨some 15, none, .mov (.t 6)⟩,
  ⟨some 2, none, .mov (.str [])⟩,
  ⟨some 3, none, .mov (.t 15)⟩]
@[simp] def c34_r4 : List AOper := [⟨some 16, none, .mov (.t 4)⟩,
  ⟨some 17, none, .call 15 [.t 16] []⟩,
  ⟨some 18, none, .ext (.t 17) 0⟩,
  ⟨some 19, none, .ext (.t 17) 1⟩,
  ⟨some 2, none, .mov (.t 18)⟩,
  ⟨some 3, none, .mov (.t 19)⟩]
@[simp] def c34 : AFn := ⟨20, [.tmp 2, .tmp 3], .seq (.ops c34_r0 false) (.seq (.ops c34_r1 false) (.seq (.seq (.ops c34_r2 false) (.cond (.t 14) (.seq (.ops c34_r3 false) (.ret)) (.skip))) (.seq (.ops c34_r4 false) (.ret))))⟩

/-- shackle shackleref14.Bad -/
@[simp] def c35_r0 : List AOper := [⟨some 2, none, .mov (.nil 1)⟩,
  ⟨some 3, none, .mov (.int .i64 0)⟩]
@[simp] def c35_r1 : List AOper := [⟨some 11, none, .mov (.t 0)⟩,
  ⟨some 12, none, .call 24 [.t 11] []⟩,
  ⟨some 10, none, .mov (.t 12)⟩,
  ⟨some 13, none, .ext (.t 10) 0⟩,
  ⟨some 14, none, .ext (.t 10) 1⟩,
  ⟨some 4, none, .mov (.t 13)⟩,
  ⟨some 5, none, .mov (.t 14)⟩]
@[simp] def c35_r2 : List AOper := [⟨some 15, none, .mov (.t 5)⟩,
  ⟨some 16, none, .not (.t 15)⟩]
@[simp] def c35_r3 : List AOper := [⟨some 2, none, .mov (.nil 1)⟩,
  ⟨some 3, none, .mov (.int .i64 140)⟩]
@[simp] def c35_r4 : List AOper := [⟨some 6, none, .nilo 6 3 1⟩]
@[simp] def c35_r5 : List AOper := [⟨some 7, none, .mov (.int .i64 0)⟩]
@[simp] def c35_r6 : List AOper := [⟨some 17, none, .mov (.t 7)⟩,
  ⟨some 18, none, .mov (.t 4)⟩,
  ⟨some 19, none, .len (.t 18)⟩,
  ⟨some 20, none, .bin .lss (.t 17) (.t 19)⟩]
@[simp] def c35_r8 : List AOper := [⟨some 24, none, .mov (.t 4)⟩,
  ⟨some 25, none, .mov (.t 7)⟩,
  ⟨some 26, none, .ixi 1 (.t 24) (.t 25)⟩,
  ⟨some 27, none, .ldi 1 false (.t 26)⟩,
  ⟨some 28, none, .call 23 [.t 27] []⟩,
  ⟨some 23, none, .mov (.t 28)⟩,
  ⟨some 29, none, .ext (.t 23) 0⟩,
  ⟨some 30, none, .ext (.t 23) 1⟩,
  ⟨some 8, none, .mov (.t 29)⟩,
  ⟨some 9, none, .mov (.t 30)⟩]
@[simp] def c35_r9 : List AOper := [⟨some 31, none, .mov (.t 9)⟩,
  ⟨some 32, none, .not (.t 31)⟩]
@[simp] def c35_r10 : List AOper := [⟨some 33, none, .mov (.t 6)⟩,
  ⟨some 34, none, .mov (.t 7)⟩,
  ⟨some 35, none, .bsl 1 [.t 34]⟩,
  ⟨some 36, none, .app 6 3 1 8 (.t 33) (.t 35)⟩,
  ⟨some 6, none, .mov (.t 36)⟩]
@[simp] def c35_r7 : List AOper := [⟨some 21, none, .mov (.t 7)⟩,
  ⟨some 22, none, .bin .add (.t 21) (.int .i64 1)⟩,
  ⟨some 7, none, .mov (.t 22)⟩]
def c35_b0 : AC := .seq (.seq (.ops c35_r6 false) (.cond (.t 20) (.skip) (.exit 0))) (.seq (.block 1 (.seq (.ops c35_r8 false) (.seq (.ops c35_r9 false) (.cond (.t 32) (.ops c35_r10 false) (.skip))))) (.ops c35_r7 false))
@[simp] def c35_r11 : List AOper := [⟨some 37, none, .mov (.t 6)⟩,
  ⟨some 2, none, .mov (.t 37)⟩,
  ⟨some 3, none, .mov (.int .i64 0)⟩]
@[simp] def c35 : AFn := ⟨38, [.tmp 2, .tmp 3], .seq (.ops c35_r0 false) (.seq (.ops c35_r1 false) (.seq (.seq (.ops c35_r2 false) (.cond (.t 16) (.seq (.ops c35_r3 false) (.ret)) (.skip))) (.seq (.ops c35_r4 false) (.seq (.seq (.ops c35_r5 false) (.block 0 (.loop c35_b0 [4, 6, 7] [6]))) (.seq (.ops c35_r11 false) (.ret))))))⟩

/-- shackle shackleref14.Lost -/
@[simp] def c36_r0 : List AOper := [⟨some 2, none, .mov (.nil 1)⟩,
  ⟨some 3, none, .mov (.int .i64 0)⟩]
@[simp] def c36_r1 : List AOper := [⟨some 14, none, .mov (.t 0)⟩,
  ⟨some 15, none, .call 24 [.t 14] []⟩,
  ⟨some 13, none, .mov (.t 15)⟩,
  ⟨some 16, none, .ext (.t 13) 0⟩,
  ⟨some 17, none, .ext (.t 13) 1⟩,
  ⟨some 4, none, .mov (.t 16)⟩,
  ⟨some 5, none, .mov (.t 17)⟩]
@[simp] def c36_r2 : List AOper := [⟨some 18, none, .mov (.t 5)⟩,
  ⟨some 19, none, .not (.t 18)⟩]
@[simp] def c36_r3 : List AOper := [⟨some 2, none, .mov (.nil 1)⟩,
  ⟨some 3, none, .mov (.int .i64 140)⟩]
@[simp] def c36_r4 : List AOper := [⟨some 20, none, .mov (.t 4)⟩,
  ⟨some 21, none, .call 54 [.t 20] []⟩,
  ⟨some 6, none, .alo 6 [.nil 1, .nil 1]⟩,
  ⟨none, none, .sto 6 2 (.t 6) (.t 21)⟩]
@[simp] def c36_r5 : List AOper := [⟨some 22, none, .ldo 6 2 true (.t 6)⟩,
  ⟨some 23, none, .call 55 [.t 22] []⟩,
  ⟨some 7, none, .mov (.t 23)⟩]
@[simp] def c36_r6 : List AOper := [⟨some 24, none, .mov (.t 7)⟩,
  ⟨some 25, none, .bin .lss (.t 24) (.int .i64 0)⟩]
@[simp] def c36_r7 : List AOper := [⟨some 2, none, .mov (.nil 1)⟩,
  ⟨some 3, none, .mov (.int .i64 142)⟩]
@[simp] def c36_r8 : List AOper := [⟨some 8, none, .nilo 8 3 1⟩]
@[simp] def c36_r9 : List AOper := [⟨some 9, none, .mov (.int .i64 0)⟩]
@[simp] def c36_r10 : List AOper := [⟨some 26, none, .mov (.t 9)⟩,
  ⟨some 27, none, .mov (.t 7)⟩,
  ⟨some 28, none, .bin .lss (.t 26) (.t 27)⟩]
@[simp] def c36_r12 : List AOper := [⟨some 32, none, .ldo 6 2 true (.t 6)⟩,
  ⟨some 33, none, .mov (.t 9)⟩,
  ⟨some 34, none, .call 56 [.t 32, .t 33] []⟩,
  ⟨some 31, none, .mov (.t 34)⟩,
  ⟨some 35, none, .ext (.t 31) 0⟩,
  ⟨some 36, none, .ext (.t 31) 1⟩,
  ⟨some 37, none, .ext (.t 31) 2⟩,
  ⟨some 10, none, .mov (.t 35)⟩,
  ⟨some 11, none, .mov (.t 36)⟩,
  ⟨some 12, none, .mov (.t 37)⟩]
@[simp] def c36_r13 : List AOper := [⟨some 38, none, .mov (.t 12)⟩,
  ⟨some 39, none, .not (.t 38)⟩]
@[simp] def c36_r14 : List AOper := [⟨some 40, none, .mov (.t 8)⟩,
  ⟨some 41, none, .mov (.t 9)⟩,
  ⟨some 42, none, .bsl 1 [.t 41]⟩,
  ⟨some 43, none, .app 8 3 1 8 (.t 40) (.t 42)⟩,
  ⟨some 8, none, .mov (.t 43)⟩]
@[simp] def c36_r11 : List AOper := [⟨some 29, none, .mov (.t 9)⟩,
  ⟨some 30, none, .bin .add (.t 29) (.int .i64 1)⟩,
  ⟨some 9, none, .mov (.t 30)⟩]
def c36_b0 : AC := .seq (.seq (.ops c36_r10 false) (.cond (.t 28) (.skip) (.exit 0))) (.seq (.block 1 (.seq (.ops c36_r12 false) (.seq (.ops c36_r13 false) (.cond (.t 39) (.ops c36_r14 false) (.skip))))) (.ops c36_r11 false))
@[simp] def c36_r15 : List AOper := [⟨some 44, none, .mov (.t 8)⟩,
  ⟨some 2, none, .mov (.t 44)⟩,
  ⟨some 3, none, .mov (.int .i64 0)⟩]
@[simp] def c36 : AFn := ⟨45, [.tmp 2, .tmp 3], .seq (.ops c36_r0 false) (.seq (.ops c36_r1 false) (.seq (.seq (.ops c36_r2 false) (.cond (.t 19) (.seq (.ops c36_r3 false) (.ret)) (.skip))) (.seq (.ops c36_r4 false) (.seq (.ops c36_r5 false) (.seq (.seq (.ops c36_r6 false) (.cond (.t 25) (.seq (.ops c36_r7 false) (.ret)) (.skip))) (.seq (.ops c36_r8 false) (.seq (.seq (.ops c36_r9 false) (.block 0 (.loop c36_b0 [6, 7, 8, 9] [6, 8]))) (.seq (.ops c36_r15 false) (.ret)))))))))⟩

/-- shackle shacklelaw14.sane -/
@[simp] def c37_r0 : List AOper := [⟨some 2, none, .mov (.bool false)⟩]
@[simp] def c37_r1 : List AOper := [⟨some 3, none, .mov (.t 0)⟩,
  ⟨some 4, none, .len (.t 3)⟩,
  ⟨some 5, none, .bin .leq (.t 4) (.int .i64 40)⟩,
  ⟨some 2, none, .mov (.t 5)⟩]
@[simp] def c37 : AFn := ⟨6, [.tmp 2], .seq (.ops c37_r0 false) (.seq (.ops c37_r1 false) (.ret))⟩

/-- slices.ContainsFunc[[]string,string] -/
@[simp] def c38_r0 : List AOper := [⟨some 4, none, .mov (.bool false)⟩]
@[simp] def c38_r1 : List AOper := [⟨some 5, none, .mov (.t 0)⟩,
  ⟨some 6, none, .mov (.t 1)⟩,
  ⟨some 7, none, .call 57 [.t 5, .t 6] []⟩,
  ⟨some 8, none, .bin .geq (.t 7) (.int .i64 0)⟩,
  ⟨some 4, none, .mov (.t 8)⟩]
@[simp] def c38 : AFn := ⟨9, [.tmp 4], .seq (.ops c38_r0 false) (.seq (.ops c38_r1 false) (.ret))⟩

/-- shackle books.Write$1 -/
@[simp] def c39_r0 : List AOper := [⟨some 2, none, .mov (.bool false)⟩]
@[simp] def c39_r1 : List AOper := [⟨some 3, none, .mov (.t 0)⟩,
  ⟨some 4, none, .call 40 [.t 3] []⟩,
  ⟨some 5, none, .not (.t 4)⟩,
  ⟨some 2, none, .mov (.t 5)⟩]
@[simp] def c39 : AFn := ⟨6, [.tmp 2], .seq (.ops c39_r0 false) (.seq (.ops c39_r1 false) (.ret))⟩

/-- shackle books.isText -/
@[simp] def c40_r0 : List AOper := [⟨some 2, none, .mov (.bool false)⟩]
@[simp] def c40_r1 : List AOper := [⟨some 5, none, .mov (.t 0)⟩,
  ⟨some 6, none, .yy (.rngs 6 (.t 5))⟩]
@[simp] def c40_r2 : List AOper := [⟨some 7, none, .yy (.nxts 6 (.t 6))⟩,
  ⟨some 8, none, .ext (.t 7) 0⟩]
@[simp] def c40_r3 : List AOper := [⟨some 9, none, .ext (.t 7) 2⟩,
  ⟨some 4, none, .mov (.t 9)⟩]
@[simp] def c40_r4 : List AOper := [⟨some 10, none, .mov (.t 4)⟩,
  ⟨some 11, none, .bin .lss (.t 10) (.int .i32 32)⟩,
  ⟨some 12, none, .mov (.t 11)⟩,
  ⟨some 13, (some (12, false)), .mov (.t 4)⟩,
  ⟨some 14, (some (12, false)), .bin .gtr (.t 13) (.int .i32 126)⟩,
  ⟨some 15, none, .pick (.t 12) (.bool true) (.t 14)⟩]
@[simp] def c40_r5 : List AOper := [⟨some 2, none, .mov (.bool false)⟩]
def c40_b0 : AC := .seq (.ops c40_r2 false) (.seq (.cond (.t 8) (.skip) (.exit 0)) (.block 1 (.seq (.ops c40_r3 false) (.seq (.ops c40_r4 false) (.cond (.t 15) (.seq (.ops c40_r5 false) (.ret)) (.skip))))))
@[simp] def c40_r6 : List AOper := [⟨some 16, none, .mov (.t 0)⟩,
  ⟨some 17, none, .lst (.t 16)⟩,
  ⟨some 18, none, .bin .leq (.t 17) (.int .i64 60)⟩,
  ⟨some 2, none, .mov (.t 18)⟩]
@[simp] def c40 : AFn := ⟨19, [.tmp 2], .seq (.ops c40_r0 false) (.seq (.seq (.ops c40_r1 false) (.block 0 (.loop c40_b0 [0, 6] [6]))) (.seq (.ops c40_r6 false) (.ret)))⟩

/-- (shackle books.row).line -/
@[simp] def c41_r0 : List AOper := [⟨some 1, none, .boxi (.t 0)⟩,
  ⟨some 2, none, .mov (.str [])⟩]
@[simp] def c41_r1 : List AOper := [⟨some 6, none, .ldi 3 true (.t 1)⟩,
  ⟨some 7, none, .call 58 [.t 6] []⟩,
  ⟨some 3, none, .mov (.t 7)⟩]
@[simp] def c41_r2 : List AOper := [⟨some 9, none, .mov (.t 3)⟩,
  ⟨some 10, none, .call 59 [.t 9] []⟩,
  ⟨some 8, none, .mov (.t 10)⟩,
  ⟨some 11, none, .ext (.t 8) 0⟩,
  ⟨some 12, none, .ext (.t 8) 1⟩,
  ⟨some 4, none, .mov (.t 11)⟩,
  ⟨some 5, none, .mov (.t 12)⟩]
@[simp] def c41_r3 : List AOper := [⟨some 13, none, .mov (.t 3)⟩,
  ⟨some 14, none, .mov (.t 4)⟩,
  ⟨some 15, none, .call 60 [.t 14] []⟩,
  ⟨some 16, none, .bin .add (.t 13) (.t 15)⟩,
  ⟨some 17, none, .mov (.t 5)⟩,
  ⟨some 18, none, .call 60 [.t 17] []⟩,
  ⟨some 19, none, .bin .add (.t 16) (.t 18)⟩,
  ⟨some 2, none, .mov (.t 19)⟩]
@[simp] def c41 : AFn := ⟨20, [.tmp 2], .seq (.ops c41_r0 false) (.seq (.ops c41_r1 false) (.seq (.ops c41_r2 false) (.seq (.ops c41_r3 false) (.ret))))⟩

/-- shackle shackleref14.AreTexts -/
@[simp] def c42_r0 : List AOper := [⟨some 2, none, .mov (.int .i64 0)⟩]
@[simp] def c42_r1 : List AOper := [⟨some 4, none, .mov (.t 0)⟩,
  ⟨some 5, none, .len (.t 4)⟩,
  ⟨some 6, none, .bin .gtr (.t 5) (.int .i64 40)⟩]
@[simp] def c42_r2 : List AOper := [⟨some 2, none, .mov (.int .i64 2)⟩]
@[simp] def c42_r3 : List AOper := [⟨some 3, none, .mov (.int .i64 0)⟩]
@[simp] def c42_r4 : List AOper := [⟨some 7, none, .mov (.t 3)⟩,
  ⟨some 8, none, .mov (.t 0)⟩,
  ⟨some 9, none, .len (.t 8)⟩,
  ⟨some 10, none, .bin .lss (.t 7) (.t 9)⟩]
@[simp] def c42_r6 : List AOper := [⟨some 13, none, .mov (.t 0)⟩,
  ⟨some 14, none, .mov (.t 3)⟩,
  ⟨some 15, none, .ixi 1 (.t 13) (.t 14)⟩,
  ⟨some 16, none, .ldi 1 false (.t 15)⟩,
  ⟨some 17, none, .call 61 [.t 16] []⟩,
  ⟨some 18, none, .not (.t 17)⟩]
@[simp] def c42_r7 : List AOper := [⟨some 2, none, .mov (.int .i64 1)⟩]
@[simp] def c42_r5 : List AOper := [⟨some 11, none, .mov (.t 3)⟩,
  ⟨some 12, none, .bin .add (.t 11) (.int .i64 1)⟩,
  ⟨some 3, none, .mov (.t 12)⟩]
def c42_b0 : AC := .seq (.seq (.ops c42_r4 false) (.cond (.t 10) (.skip) (.exit 0))) (.seq (.block 1 (.seq (.ops c42_r6 false) (.cond (.t 18) (.seq (.ops c42_r7 false) (.ret)) (.skip)))) (.ops c42_r5 false))
@[simp] def c42_r8 : List AOper := [⟨some 2, none, .mov (.int .i64 0)⟩]
@[simp] def c42 : AFn := ⟨19, [.tmp 2], .seq (.ops c42_r0 false) (.seq (.seq (.ops c42_r1 false) (.cond (.t 6) (.seq (.ops c42_r2 false) (.ret)) (.skip))) (.seq (.seq (.ops c42_r3 false) (.block 0 (.loop c42_b0 [0, 3] []))) (.seq (.ops c42_r8 false) (.ret))))⟩

/-- shackle shackleref14.Closing -/
@[simp] def c43_r0 : List AOper := [⟨some 2, none, .mov (.str [])⟩]
@[simp] def c43_r1 : List AOper := [⟨some 3, none, .mov (.t 0)⟩,
  ⟨some 4, none, .call 52 [.t 3] []⟩,
  ⟨some 5, none, .bin .add (.str [46, 46]) (.t 4)⟩,
  ⟨some 2, none, .mov (.t 5)⟩]
@[simp] def c43 : AFn := ⟨6, [.tmp 2], .seq (.ops c43_r0 false) (.seq (.ops c43_r1 false) (.ret))⟩

/-- shackle books.open -/
@[simp] def c44_r0 : List AOper := [⟨some 2, none, .alo 2 [.nilm, .nil 1, .nilm, .nil 1]⟩,
  ⟨some 3, none, .mov (.int .i64 0)⟩]
@[simp] def c44_r1 : List AOper := [⟨some 12, none, .mov (.t 0)⟩,
  ⟨some 13, none, .call 50 [.t 12] []⟩,
  ⟨some 11, none, .mov (.t 13)⟩,
  ⟨some 14, none, .ext (.t 11) 0⟩,
  ⟨some 15, none, .ext (.t 11) 1⟩,
  ⟨some 4, none, .mov (.t 14)⟩,
  ⟨some 5, none, .mov (.t 15)⟩]
@[simp] def c44_r2 : List AOper := [⟨some 16, none, .mov (.t 5)⟩,
  ⟨some 17, none, .not (.t 16)⟩]
@[simp] def c44_r3 : List AOper := [⟨some 18, none, .bld [.nilm, .nil 1, .nilm, .nil 1] []⟩,
  ⟨none, none, .sto 2 4 (.t 2) (.t 18)⟩,
  ⟨some 3, none, .mov (.int .i64 140)⟩]
@[simp] def c44_r4 : List AOper := [⟨some 19, none, .yy (.mkm 19 (some (9, 1)))⟩,
  ⟨some 20, none, .yy (.mkm 20 none)⟩,
  ⟨some 21, none, .bld [.nilm, .nilv 1, .nilm, .nilv 1] [(0, 1, .t 19), (2, 1, .t 20)]⟩,
  ⟨some 6, none, .alo 6 [.nilm, .nil 1, .nilm, .nil 1]⟩,
  ⟨none, none, .sto 6 4 (.t 6) (.t 21)⟩]
@[simp] def c44_r5 : List AOper := [⟨some 22, none, .mov (.t 4)⟩,
  ⟨some 23, none, .len (.t 22)⟩,
  ⟨some 24, none, .mov (.int .i64 0)⟩]
@[simp] def c44_r6 : List AOper := [⟨some 25, none, .bin .lss (.t 24) (.t 23)⟩]
@[simp] def c44_r7 : List AOper := [⟨some 26, none, .mov (.t 24)⟩,
  ⟨some 27, none, .ixi 1 (.t 22) (.t 24)⟩,
  ⟨some 28, none, .ldi 1 false (.t 27)⟩,
  ⟨some 7, none, .mov (.t 26)⟩,
  ⟨some 8, none, .mov (.t 28)⟩]
@[simp] def c44_r8 : List AOper := [⟨some 30, none, .mov (.t 8)⟩,
  ⟨some 31, none, .call 62 [.t 30] []⟩,
  ⟨some 29, none, .mov (.t 31)⟩,
  ⟨some 32, none, .ext (.t 29) 0⟩,
  ⟨some 33, none, .ext (.t 29) 1⟩,
  ⟨some 9, none, .alo 9 [.int .i64 0, .str [], .bool false]⟩,
  ⟨none, none, .sto 9 3 (.t 9) (.t 32)⟩,
  ⟨some 10, none, .mov (.t 33)⟩]
@[simp] def c44_r12 : List AOper := [⟨some 57, none, .mov (.t 10)⟩,
  ⟨some 58, none, .not (.t 57)⟩,
  ⟨some 56, none, .mov (.t 58)⟩]
@[simp] def c44_r13 : List AOper := [⟨some 59, none, .fld 3 (.t 6)⟩,
  ⟨some 60, none, .ldo 6 1 false (.t 59)⟩,
  ⟨some 61, none, .mov (.t 7)⟩,
  ⟨some 62, none, .bsl 1 [.t 61]⟩,
  ⟨some 63, none, .app 7003 3 1 8 (.t 60) (.t 62)⟩,
  ⟨some 64, none, .fld 3 (.t 6)⟩,
  ⟨none, none, .sto 6 1 (.t 64) (.t 63)⟩]
@[simp] def c44_r14 : List AOper := [⟨some 66, none, .fld 2 (.t 9)⟩,
  ⟨some 67, none, .ldo 9 1 false (.t 66)⟩,
  ⟨some 65, none, .mov (.t 67)⟩]
@[simp] def c44_r15 : List AOper := [⟨some 68, none, .fld 1 (.t 6)⟩,
  ⟨some 69, none, .ldo 6 1 false (.t 68)⟩,
  ⟨some 70, none, .fld 0 (.t 9)⟩,
  ⟨some 71, none, .ldo 9 1 false (.t 70)⟩,
  ⟨some 72, none, .callr 63 (.t 69) [.t 71] 7001⟩,
  ⟨some 73, none, .fld 1 (.t 6)⟩,
  ⟨none, none, .sto 6 1 (.t 73) (.t 72)⟩]
@[simp] def c44_r9 : List AOper := [⟨some 34, none, .fld 0 (.t 6)⟩,
  ⟨some 35, none, .ldo 6 1 false (.t 34)⟩,
  ⟨some 36, none, .fld 0 (.t 9)⟩,
  ⟨some 37, none, .ldo 9 1 false (.t 36)⟩,
  ⟨some 38, none, .fld 0 (.t 6)⟩,
  ⟨some 39, none, .ldo 6 1 false (.t 38)⟩,
  ⟨some 40, none, .fld 0 (.t 9)⟩,
  ⟨some 41, none, .ldo 9 1 false (.t 40)⟩,
  ⟨some 42, none, .yy (.lkr 19 (some .i64) (.t 39) (.t 41))⟩,
  ⟨some 43, none, .fld 1 (.t 9)⟩,
  ⟨some 44, none, .ldo 9 1 false (.t 43)⟩,
  ⟨some 45, none, .callr 64 (.t 42) [.t 44] 19⟩,
  ⟨none, none, .yy (.mupr 19 (some .i64) (.t 35) (.t 37) (.t 45))⟩]
@[simp] def c44_r10 : List AOper := [⟨some 46, none, .ldo 9 3 true (.t 9)⟩,
  ⟨some 47, none, .call 41 [.t 46] []⟩,
  ⟨some 48, none, .mov (.t 8)⟩,
  ⟨some 49, none, .bin .eql (.t 47) (.t 48)⟩]
@[simp] def c44_r11 : List AOper := [⟨some 50, none, .fld 2 (.t 6)⟩,
  ⟨some 51, none, .ldo 6 1 false (.t 50)⟩,
  ⟨some 52, none, .fld 0 (.t 9)⟩,
  ⟨some 53, none, .ldo 9 1 false (.t 52)⟩,
  ⟨some 54, none, .yy (.lkd 20 (some .i64) (.int .i64 0) (.t 51) (.t 53))⟩,
  ⟨some 55, none, .bin .add (.t 54) (.int .i64 1)⟩,
  ⟨none, none, .yy (.mupd 20 (some .i64) (.t 51) (.t 53) (.t 55))⟩]
@[simp] def c44_r16 : List AOper := [⟨some 74, none, .bin .add (.t 24) (.int .i64 1)⟩,
  ⟨some 24, none, .mov (.t 74)⟩]
def c44_b0 : AC := .seq (.ops c44_r6 false) (.seq (.cond (.t 25) (.skip) (.exit 0)) (.seq (.block 1 (.seq (.ops c44_r7 false) (.seq (.ops c44_r8 false) (.block 2 (.seq (.ops c44_r12 false) (.cond (.t 56) (.ops c44_r13 false) (.seq (.ops c44_r14 false) (.cond (.t 65) (.ops c44_r15 false) (.seq (.ops c44_r9 true) (.seq (.ops c44_r10 false) (.cond (.t 49) (.ops c44_r11 false) (.skip)))))))))))) (.ops c44_r16 false)))
@[simp] def c44_r17 : List AOper := [⟨some 75, none, .ldo 6 4 true (.t 6)⟩,
  ⟨none, none, .sto 2 4 (.t 2) (.t 75)⟩,
  ⟨some 3, none, .mov (.int .i64 0)⟩]
@[simp] def c44 : AFn := ⟨76, [.cell 2 4 true, .tmp 3], .seq (.ops c44_r0 false) (.seq (.ops c44_r1 false) (.seq (.seq (.ops c44_r2 false) (.cond (.t 17) (.seq (.ops c44_r3 false) (.ret)) (.skip))) (.seq (.ops c44_r4 false) (.gh 7001 6 1 3 1 (.gh 7003 6 3 3 1 (.seq (.seq (.ops c44_r5 false) (.block 0 (.loop c44_b0 [2, 6, 22, 23, 24] [2, 6, 19, 20, 7001, 7003]))) (.seq (.ops c44_r17 false) (.ret))))))))⟩

/-- (shackle books.page).clash -/
@[simp] def c45_r0 : List AOper := [⟨some 1, none, .boxi (.t 0)⟩,
  ⟨some 2, none, .mov (.bool false)⟩]
@[simp] def c45_r1 : List AOper := [⟨some 5, none, .fld 1 (.t 1)⟩,
  ⟨some 6, none, .ldi 1 false (.t 5)⟩,
  ⟨some 7, none, .len (.t 6)⟩,
  ⟨some 8, none, .bin .gtr (.t 7) (.int .i64 1)⟩]
@[simp] def c45_r2 : List AOper := [⟨some 2, none, .mov (.bool true)⟩]
@[simp] def c45_r3 : List AOper := [⟨some 9, none, .fld 0 (.t 1)⟩,
  ⟨some 10, none, .ldi 1 false (.t 9)⟩,
  ⟨some 11, none, .yy (.rngm 11 (.t 10))⟩]
@[simp] def c45_r5 : List AOper := [⟨some 14, none, .yy (.ent 11 (.t 11))⟩,
  ⟨some 15, none, .ext (.t 14) 0⟩,
  ⟨some 16, none, .ext (.t 14) 1⟩,
  ⟨some 3, none, .mov (.t 15)⟩,
  ⟨some 4, none, .mov (.t 16)⟩]
@[simp] def c45_r6 : List AOper := [⟨some 17, none, .mov (.t 4)⟩,
  ⟨some 18, none, .len (.t 17)⟩,
  ⟨some 19, none, .bin .gtr (.t 18) (.int .i64 1)⟩,
  ⟨some 20, none, .mov (.t 19)⟩,
  ⟨some 21, (some (20, false)), .fld 1 (.t 1)⟩,
  ⟨some 22, (some (20, false)), .ldi 1 false (.t 21)⟩,
  ⟨some 23, (some (20, false)), .len (.t 22)⟩,
  ⟨some 24, (some (20, false)), .bin .gtr (.t 23) (.int .i64 0)⟩,
  ⟨some 25, (some (20, false)), .mov (.t 24)⟩,
  ⟨some 26, (some (25, true)), .mov (.t 3)⟩,
  ⟨some 27, (some (25, true)), .fld 1 (.t 1)⟩,
  ⟨some 28, (some (25, true)), .ldi 1 false (.t 27)⟩,
  ⟨some 29, (some (25, true)), .ixi 1 (.t 28) (.int .i64 0)⟩,
  ⟨some 30, (some (25, true)), .ldi 1 false (.t 29)⟩,
  ⟨some 31, (some (25, true)), .bin .geq (.t 26) (.t 30)⟩,
  ⟨some 32, (some (20, false)), .pick (.t 25) (.t 31) (.bool false)⟩,
  ⟨some 33, none, .pick (.t 20) (.bool true) (.t 32)⟩]
@[simp] def c45_r7 : List AOper := [⟨some 2, none, .mov (.bool true)⟩]
def c45_b0 : AC := .seq (.nxt 12 13 (.t 11) 11) (.seq (.cond (.t 13) (.skip) (.exit 0)) (.block 1 (.seq (.ops c45_r5 false) (.seq (.ops c45_r6 false) (.cond (.t 33) (.seq (.ops c45_r7 false) (.ret)) (.skip))))))
@[simp] def c45_r8 : List AOper := [⟨some 2, none, .mov (.bool false)⟩]
@[simp] def c45 : AFn := ⟨34, [.tmp 2], .seq (.ops c45_r0 false) (.seq (.seq (.ops c45_r1 false) (.cond (.t 8) (.seq (.ops c45_r2 false) (.ret)) (.skip))) (.seq (.seq (.ops c45_r3 false) (.block 0 (.loop c45_b0 [1, 11] [11]))) (.seq (.ops c45_r8 false) (.ret))))⟩

/-- (shackle books.page).lost -/
@[simp] def c46_r0 : List AOper := [⟨some 2, none, .boxi (.t 0)⟩,
  ⟨some 4, none, .mov (.nil 1)⟩]
@[simp] def c46_r1 : List AOper := [⟨some 5, none, .nilo 5 3 1⟩]
@[simp] def c46_r2 : List AOper := [⟨some 7, none, .mov (.t 1)⟩,
  ⟨some 8, none, .mov (.int .i64 0)⟩]
@[simp] def c46_r3 : List AOper := [⟨some 9, none, .bin .lss (.t 8) (.t 7)⟩]
@[simp] def c46_r4 : List AOper := [⟨some 10, none, .mov (.t 8)⟩,
  ⟨some 6, none, .mov (.t 10)⟩]
@[simp] def c46_r5 : List AOper := [⟨some 11, none, .fld 0 (.t 2)⟩,
  ⟨some 12, none, .ldi 1 false (.t 11)⟩,
  ⟨some 13, none, .mov (.t 6)⟩,
  ⟨some 14, none, .yy (.lki (some .i64) (.nil 1) (.t 12) (.t 13))⟩,
  ⟨some 15, none, .len (.t 14)⟩,
  ⟨some 16, none, .bin .eql (.t 15) (.int .i64 0)⟩]
@[simp] def c46_r6 : List AOper := [⟨some 17, none, .mov (.t 5)⟩,
  ⟨some 18, none, .mov (.t 6)⟩,
  ⟨some 19, none, .bsl 1 [.t 18]⟩,
  ⟨some 20, none, .app 5 3 1 8 (.t 17) (.t 19)⟩,
  ⟨some 5, none, .mov (.t 20)⟩]
@[simp] def c46_r7 : List AOper := [⟨some 21, none, .bin .add (.t 8) (.int .i64 1)⟩,
  ⟨some 8, none, .mov (.t 21)⟩]
def c46_b0 : AC := .seq (.ops c46_r3 false) (.seq (.cond (.t 9) (.skip) (.exit 0)) (.seq (.block 1 (.seq (.ops c46_r4 false) (.seq (.ops c46_r5 false) (.cond (.t 16) (.ops c46_r6 false) (.skip))))) (.ops c46_r7 false)))
@[simp] def c46_r8 : List AOper := [⟨some 22, none, .mov (.t 5)⟩,
  ⟨some 4, none, .mov (.t 22)⟩]
@[simp] def c46 : AFn := ⟨23, [.tmp 4], .seq (.ops c46_r0 false) (.seq (.ops c46_r1 false) (.seq (.seq (.ops c46_r2 false) (.block 0 (.loop c46_b0 [2, 5, 7, 8] [5]))) (.seq (.ops c46_r8 false) (.ret))))⟩

/-- shackle shackleref14.fits -/
@[simp] def c47_r0 : List AOper := [⟨some 4, none, .mov (.bool false)⟩]
@[simp] def c47_r1 : List AOper := [⟨some 5, none, .mov (.t 1)⟩,
  ⟨some 6, none, .call 65 [.t 5] []⟩,
  ⟨some 7, none, .not (.t 6)⟩,
  ⟨some 8, none, .mov (.t 7)⟩,
  ⟨some 9, (some (8, false)), .mov (.t 0)⟩,
  ⟨some 10, (some (8, false)), .lst (.t 9)⟩,
  ⟨some 11, (some (8, false)), .mov (.t 1)⟩,
  ⟨some 12, (some (8, false)), .lst (.t 11)⟩,
  ⟨some 13, (some (8, false)), .bin .add (.t 12) (.int .i64 4)⟩,
  ⟨some 14, (some (8, false)), .bin .neq (.t 10) (.t 13)⟩,
  ⟨some 15, none, .pick (.t 8) (.bool true) (.t 14)⟩]
@[simp] def c47_r2 : List AOper := [⟨some 4, none, .mov (.bool false)⟩]
@[simp] def c47_r3 : List AOper := [⟨some 16, none, .mov (.t 0)⟩,
  ⟨some 17, none, .mov (.t 1)⟩,
  ⟨some 18, none, .call 29 [.t 17] []⟩,
  ⟨some 19, none, .call 66 [.t 16, .t 18] []⟩,
  ⟨some 20, none, .bin .leq (.t 19) (.int .i64 1)⟩,
  ⟨some 4, none, .mov (.t 20)⟩]
@[simp] def c47 : AFn := ⟨21, [.tmp 4], .seq (.ops c47_r0 false) (.seq (.seq (.ops c47_r1 false) (.cond (.t 15) (.seq (.ops c47_r2 false) (.ret)) (.skip))) (.seq (.ops c47_r3 false) (.ret)))⟩

/-- shackle shackleref14.digits -/
@[simp] def c48_r0 : List AOper := [⟨some 2, none, .mov (.int .i64 0)⟩]
@[simp] def c48_r1 : List AOper := [⟨some 3, none, .mov (.t 0)⟩,
  ⟨some 4, none, .lst (.t 3)⟩,
  ⟨some 5, none, .bin .neq (.t 4) (.int .i64 2)⟩,
  ⟨some 6, none, .mov (.t 5)⟩,
  ⟨some 7, (some (6, false)), .mov (.t 0)⟩,
  ⟨some 8, (some (6, false)), .ixs (.t 7) (.int .i64 0)⟩,
  ⟨some 9, (some (6, false)), .bin .lss (.t 8) (.int .u8 48)⟩,
  ⟨some 10, none, .pick (.t 6) (.bool true) (.t 9)⟩,
  ⟨some 11, none, .mov (.t 10)⟩,
  ⟨some 12, (some (11, false)), .mov (.t 0)⟩,
  ⟨some 13, (some (11, false)), .ixs (.t 12) (.int .i64 0)⟩,
  ⟨some 14, (some (11, false)), .bin .gtr (.t 13) (.int .u8 57)⟩,
  ⟨some 15, none, .pick (.t 11) (.bool true) (.t 14)⟩,
  ⟨some 16, none, .mov (.t 15)⟩,
  ⟨some 17, (some (16, false)), .mov (.t 0)⟩,
  ⟨some 18, (some (16, false)), .ixs (.t 17) (.int .i64 1)⟩,
  ⟨some 19, (some (16, false)), .bin .lss (.t 18) (.int .u8 48)⟩,
  ⟨some 20, none, .pick (.t 16) (.bool true) (.t 19)⟩,
  ⟨some 21, none, .mov (.t 20)⟩,
  ⟨some 22, (some (21, false)), .mov (.t 0)⟩,
  ⟨some 23, (some (21, false)), .ixs (.t 22) (.int .i64 1)⟩,
  ⟨some 24, (some (21, false)), .bin .gtr (.t 23) (.int .u8 57)⟩,
  ⟨some 25, none, .pick (.t 21) (.bool true) (.t 24)⟩]
@[simp] def c48_r2 : List AOper := [⟨some 2, none, .mov (.int .i64 (-1))⟩]
@[simp] def c48_r3 : List AOper := [⟨some 26, none, .mov (.t 0)⟩,
  ⟨some 27, none, .ixs (.t 26) (.int .i64 0)⟩,
  ⟨some 28, none, .bin .sub (.t 27) (.int .u8 48)⟩,
  ⟨some 29, none, .cvi .i64 (.t 28)⟩,
  ⟨some 30, none, .bin .mul (.int .i64 10) (.t 29)⟩,
  ⟨some 31, none, .mov (.t 0)⟩,
  ⟨some 32, none, .ixs (.t 31) (.int .i64 1)⟩,
  ⟨some 33, none, .bin .sub (.t 32) (.int .u8 48)⟩,
  ⟨some 34, none, .cvi .i64 (.t 33)⟩,
  ⟨some 35, none, .bin .add (.t 30) (.t 34)⟩,
  ⟨some 2, none, .mov (.t 35)⟩]
@[simp] def c48 : AFn := ⟨36, [.tmp 2], .seq (.ops c48_r0 false) (.seq (.seq (.ops c48_r1 false) (.cond (.t 25) (.seq (.ops c48_r2 false) (.ret)) (.skip))) (.seq (.ops c48_r3 true) (.ret)))⟩

/-- shackle shackleref14.sums -/
@[simp] def c49_r0 : List AOper := [⟨some 2, none, .mov (.int .i64 0)⟩,
  ⟨some 3, none, .mov (.int .i64 0)⟩]
@[simp] def c49_r1 : List AOper := [⟨some 4, none, .mov (.int .i64 0)⟩]
@[simp] def c49_r2 : List AOper := [⟨some 6, none, .mov (.t 4)⟩,
  ⟨some 7, none, .mov (.t 0)⟩,
  ⟨some 8, none, .lst (.t 7)⟩,
  ⟨some 9, none, .bin .lss (.t 6) (.t 8)⟩]
@[simp] def c49_r4 : List AOper := [⟨some 12, none, .mov (.t 0)⟩,
  ⟨some 13, none, .mov (.t 4)⟩,
  ⟨some 14, none, .ixs (.t 12) (.t 13)⟩,
  ⟨some 15, none, .cvi .i64 (.t 14)⟩,
  ⟨some 16, none, .bin .sub (.t 15) (.int .i64 32)⟩,
  ⟨some 5, none, .mov (.t 16)⟩]
@[simp] def c49_r5 : List AOper := [⟨some 17, none, .mov (.t 2)⟩,
  ⟨some 18, none, .mov (.t 5)⟩,
  ⟨some 19, none, .bin .add (.t 17) (.t 18)⟩,
  ⟨some 2, none, .mov (.t 19)⟩]
@[simp] def c49_r6 : List AOper := [⟨some 20, none, .mov (.t 3)⟩,
  ⟨some 21, none, .mov (.t 4)⟩,
  ⟨some 22, none, .bin .add (.t 21) (.int .i64 1)⟩,
  ⟨some 23, none, .mov (.t 5)⟩,
  ⟨some 24, none, .bin .mul (.t 22) (.t 23)⟩,
  ⟨some 25, none, .bin .add (.t 20) (.t 24)⟩,
  ⟨some 3, none, .mov (.t 25)⟩]
@[simp] def c49_r3 : List AOper := [⟨some 10, none, .mov (.t 4)⟩,
  ⟨some 11, none, .bin .add (.t 10) (.int .i64 1)⟩,
  ⟨some 4, none, .mov (.t 11)⟩]
def c49_b0 : AC := .seq (.seq (.ops c49_r2 false) (.cond (.t 9) (.skip) (.exit 0))) (.seq (.block 1 (.seq (.ops c49_r4 false) (.seq (.ops c49_r5 false) (.ops c49_r6 false)))) (.ops c49_r3 false))
@[simp] def c49_r7 : List AOper := [⟨some 26, none, .mov (.t 2)⟩,
  ⟨some 27, none, .bin .rem (.t 26) (.int .i64 97)⟩,
  ⟨some 28, none, .mov (.t 3)⟩,
  ⟨some 29, none, .bin .rem (.t 28) (.int .i64 97)⟩,
  ⟨some 2, none, .mov (.t 27)⟩,
  ⟨some 3, none, .mov (.t 29)⟩]
@[simp] def c49 : AFn := ⟨30, [.tmp 2, .tmp 3], .seq (.ops c49_r0 false) (.seq (.seq (.ops c49_r1 false) (.block 0 (.loop c49_b0 [0, 2, 3, 4] []))) (.seq (.ops c49_r7 false) (.ret)))⟩

/-- shackle books.cut -/
@[simp] def c50_r0 : List AOper := [⟨some 2, none, .mov (.nil 1)⟩,
  ⟨some 3, none, .mov (.bool false)⟩]
@[simp] def c50_r1 : List AOper := [⟨some 7, none, .mov (.t 0)⟩,
  ⟨some 8, none, .call 67 [.t 7, .str [10]] []⟩,
  ⟨some 6, none, .mov (.t 8)⟩,
  ⟨some 9, none, .ext (.t 6) 0⟩,
  ⟨some 10, none, .ext (.t 6) 1⟩,
  ⟨some 4, none, .mov (.t 9)⟩,
  ⟨some 5, none, .mov (.t 10)⟩]
@[simp] def c50_r2 : List AOper := [⟨some 11, none, .mov (.t 5)⟩,
  ⟨some 12, none, .not (.t 11)⟩]
@[simp] def c50_r3 : List AOper := [⟨some 2, none, .mov (.nil 1)⟩,
  ⟨some 3, none, .mov (.bool false)⟩]
@[simp] def c50_r4 : List AOper := [⟨some 13, none, .mov (.t 4)⟩,
  ⟨some 14, none, .call 68 [.t 13, .str [10]] []⟩,
  ⟨some 2, none, .mov (.t 14)⟩,
  ⟨some 3, none, .mov (.bool true)⟩]
@[simp] def c50 : AFn := ⟨15, [.tmp 2, .tmp 3], .seq (.ops c50_r0 false) (.seq (.ops c50_r1 false) (.seq (.seq (.ops c50_r2 false) (.cond (.t 12) (.seq (.ops c50_r3 false) (.ret)) (.skip))) (.seq (.ops c50_r4 false) (.ret))))⟩

/-- slices.Max[[]int,int] -/
@[simp] def c51_r0 : List AOper := [⟨some 2, none, .mov (.int .i64 0)⟩]
@[simp] def c51_r1 : List AOper := [⟨some 5, none, .mov (.t 0)⟩,
  ⟨some 6, none, .len (.t 5)⟩,
  ⟨some 7, none, .bin .lss (.t 6) (.int .i64 1)⟩]
@[simp] def c51_r2 : List AOper := [⟨some 8, none, .yy .no⟩,
  ⟨none, none, .yy .no⟩]
@[simp] def c51_r3 : List AOper := [⟨some 9, none, .mov (.t 0)⟩,
  ⟨some 10, none, .ixi 1 (.t 9) (.int .i64 0)⟩,
  ⟨some 11, none, .ldi 1 false (.t 10)⟩,
  ⟨some 3, none, .mov (.t 11)⟩]
@[simp] def c51_r4 : List AOper := [⟨some 4, none, .mov (.int .i64 1)⟩]
@[simp] def c51_r5 : List AOper := [⟨some 12, none, .mov (.t 4)⟩,
  ⟨some 13, none, .mov (.t 0)⟩,
  ⟨some 14, none, .len (.t 13)⟩,
  ⟨some 15, none, .bin .lss (.t 12) (.t 14)⟩]
@[simp] def c51_r7 : List AOper := [⟨some 18, none, .mov (.t 3)⟩,
  ⟨some 19, none, .mov (.t 0)⟩,
  ⟨some 20, none, .mov (.t 4)⟩,
  ⟨some 21, none, .ixi 1 (.t 19) (.t 20)⟩,
  ⟨some 22, none, .ldi 1 false (.t 21)⟩,
  ⟨some 23, none, .yy (.mx false (.t 18) (.t 22))⟩,
  ⟨some 3, none, .mov (.t 23)⟩]
@[simp] def c51_r6 : List AOper := [⟨some 16, none, .mov (.t 4)⟩,
  ⟨some 17, none, .bin .add (.t 16) (.int .i64 1)⟩,
  ⟨some 4, none, .mov (.t 17)⟩]
def c51_b0 : AC := .seq (.seq (.ops c51_r5 false) (.cond (.t 15) (.skip) (.exit 0))) (.seq (.block 1 (.ops c51_r7 false)) (.ops c51_r6 false))
@[simp] def c51_r8 : List AOper := [⟨some 24, none, .mov (.t 3)⟩,
  ⟨some 2, none, .mov (.t 24)⟩]
@[simp] def c51 : AFn := ⟨25, [.tmp 2], .seq (.ops c51_r0 false) (.seq (.seq (.ops c51_r1 false) (.cond (.t 7) (.ops c51_r2 false) (.skip))) (.seq (.ops c51_r3 false) (.seq (.seq (.ops c51_r4 false) (.block 0 (.loop c51_b0 [0, 3, 4] []))) (.seq (.ops c51_r8 false) (.ret)))))⟩

/-- shackle shackleref14.two -/
@[simp] def c52_r0 : List AOper := [⟨some 2, none, .mov (.str [])⟩]
@[simp] def c52_r1 : List AOper := [⟨some 3, none, .mov (.t 0)⟩,
  ⟨some 4, none, .bin .quo (.t 3) (.int .i64 10)⟩,
  ⟨some 5, none, .bin .add (.int .i64 48) (.t 4)⟩,
  ⟨some 6, none, .cvi .u8 (.t 5)⟩,
  ⟨some 7, none, .mov (.t 0)⟩,
  ⟨some 8, none, .bin .rem (.t 7) (.int .i64 10)⟩,
  ⟨some 9, none, .bin .add (.int .i64 48) (.t 8)⟩,
  ⟨some 10, none, .cvi .u8 (.t 9)⟩,
  ⟨some 11, none, .bsl 1 [.t 6, .t 10]⟩,
  ⟨some 12, none, .b2s (.t 11)⟩,
  ⟨some 2, none, .mov (.t 12)⟩]
@[simp] def c52 : AFn := ⟨13, [.tmp 2], .seq (.ops c52_r0 false) (.seq (.ops c52_r1 false) (.ret))⟩

/-- shackle shackleref14.read -/
@[simp] def c53_r0 : List AOper := [⟨some 2, none, .nilo 2 9 1⟩,
  ⟨some 3, none, .nilo 3 3 1⟩,
  ⟨some 4, none, .mov (.int .i64 0)⟩]
@[simp] def c53_r1 : List AOper := [⟨some 13, none, .mov (.t 0)⟩,
  ⟨some 14, none, .call 54 [.t 13] []⟩,
  ⟨some 5, none, .alo 5 [.nil 1, .nil 1]⟩,
  ⟨none, none, .sto 5 2 (.t 5) (.t 14)⟩]
@[simp] def c53_r2 : List AOper := [⟨some 6, none, .mov (.int .i64 0)⟩]
@[simp] def c53_r3 : List AOper := [⟨some 15, none, .mov (.t 6)⟩,
  ⟨some 16, none, .fld 0 (.t 5)⟩,
  ⟨some 17, none, .ldo 5 1 false (.t 16)⟩,
  ⟨some 18, none, .len (.t 17)⟩,
  ⟨some 19, none, .bin .lss (.t 15) (.t 18)⟩]
@[simp] def c53_r5 : List AOper := [⟨some 7, none, .mov (.int .i64 0)⟩]
@[simp] def c53_r6 : List AOper := [⟨some 22, none, .mov (.t 7)⟩,
  ⟨some 23, none, .mov (.t 6)⟩,
  ⟨some 24, none, .bin .lss (.t 22) (.t 23)⟩]
@[simp] def c53_r8 : List AOper := [⟨some 27, none, .fld 0 (.t 5)⟩,
  ⟨some 28, none, .ldo 5 1 false (.t 27)⟩,
  ⟨some 29, none, .mov (.t 6)⟩,
  ⟨some 30, none, .ixi 1 (.t 28) (.t 29)⟩,
  ⟨some 31, none, .ldi 1 false (.t 30)⟩,
  ⟨some 32, none, .fld 0 (.t 5)⟩,
  ⟨some 33, none, .ldo 5 1 false (.t 32)⟩,
  ⟨some 34, none, .mov (.t 7)⟩,
  ⟨some 35, none, .ixi 1 (.t 33) (.t 34)⟩,
  ⟨some 36, none, .ldi 1 false (.t 35)⟩,
  ⟨some 37, none, .call 69 [.t 31, .t 36] []⟩]
@[simp] def c53_r9 : List AOper := [⟨some 2, none, .mov (.nil 1)⟩,
  ⟨some 3, none, .mov (.nil 1)⟩,
  ⟨some 4, none, .mov (.int .i64 141)⟩]
@[simp] def c53_r7 : List AOper := [⟨some 25, none, .mov (.t 7)⟩,
  ⟨some 26, none, .bin .add (.t 25) (.int .i64 1)⟩,
  ⟨some 7, none, .mov (.t 26)⟩]
def c53_b0 : AC := .seq (.seq (.ops c53_r6 false) (.cond (.t 24) (.skip) (.exit 2))) (.seq (.block 3 (.seq (.ops c53_r8 true) (.cond (.t 37) (.seq (.ops c53_r9 false) (.ret)) (.skip)))) (.ops c53_r7 false))
@[simp] def c53_r4 : List AOper := [⟨some 20, none, .mov (.t 6)⟩,
  ⟨some 21, none, .bin .add (.t 20) (.int .i64 1)⟩,
  ⟨some 6, none, .mov (.t 21)⟩]
def c53_b1 : AC := .seq (.seq (.ops c53_r3 false) (.cond (.t 19) (.skip) (.exit 0))) (.seq (.block 1 (.seq (.ops c53_r5 false) (.block 2 (.loop c53_b0 [2, 3, 5, 6, 7] [2, 3, 5])))) (.ops c53_r4 false))
@[simp] def c53_r10 : List AOper := [⟨some 38, none, .ldo 5 2 true (.t 5)⟩,
  ⟨some 39, none, .call 55 [.t 38] []⟩,
  ⟨some 8, none, .mov (.t 39)⟩]
@[simp] def c53_r11 : List AOper := [⟨some 40, none, .mov (.t 8)⟩,
  ⟨some 41, none, .bin .lss (.t 40) (.int .i64 0)⟩]
@[simp] def c53_r12 : List AOper := [⟨some 2, none, .mov (.nil 1)⟩,
  ⟨some 3, none, .mov (.nil 1)⟩,
  ⟨some 4, none, .mov (.int .i64 142)⟩]
@[simp] def c53_r13 : List AOper := [⟨some 9, none, .mov (.int .i64 0)⟩]
@[simp] def c53_r14 : List AOper := [⟨some 42, none, .mov (.t 9)⟩,
  ⟨some 43, none, .mov (.t 8)⟩,
  ⟨some 44, none, .bin .lss (.t 42) (.t 43)⟩]
@[simp] def c53_r16 : List AOper := [⟨some 48, none, .ldo 5 2 true (.t 5)⟩,
  ⟨some 49, none, .mov (.t 9)⟩,
  ⟨some 50, none, .call 56 [.t 48, .t 49] []⟩,
  ⟨some 47, none, .mov (.t 50)⟩,
  ⟨some 51, none, .ext (.t 47) 0⟩,
  ⟨some 52, none, .ext (.t 47) 1⟩,
  ⟨some 53, none, .ext (.t 47) 2⟩,
  ⟨some 10, none, .mov (.t 51)⟩,
  ⟨some 11, none, .mov (.t 52)⟩,
  ⟨some 12, none, .mov (.t 53)⟩]
@[simp] def c53_r17 : List AOper := [⟨some 54, none, .mov (.t 12)⟩,
  ⟨some 55, none, .not (.t 54)⟩]
@[simp] def c53_r18 : List AOper := [⟨some 2, none, .mov (.nil 1)⟩,
  ⟨some 3, none, .mov (.nil 1)⟩,
  ⟨some 4, none, .mov (.int .i64 142)⟩]
@[simp] def c53_r19 : List AOper := [⟨some 56, none, .mov (.t 2)⟩,
  ⟨some 57, none, .mov (.t 10)⟩,
  ⟨some 58, none, .bsl 1 [.t 57]⟩,
  ⟨some 59, none, .app 2 9 1 16 (.t 56) (.t 58)⟩,
  ⟨some 2, none, .mov (.t 59)⟩]
@[simp] def c53_r20 : List AOper := [⟨some 60, none, .mov (.t 11)⟩,
  ⟨some 61, none, .not (.t 60)⟩]
@[simp] def c53_r21 : List AOper := [⟨some 62, none, .mov (.t 3)⟩,
  ⟨some 63, none, .mov (.t 9)⟩,
  ⟨some 64, none, .bsl 1 [.t 63]⟩,
  ⟨some 65, none, .app 3 3 1 8 (.t 62) (.t 64)⟩,
  ⟨some 3, none, .mov (.t 65)⟩]
@[simp] def c53_r15 : List AOper := [⟨some 45, none, .mov (.t 9)⟩,
  ⟨some 46, none, .bin .add (.t 45) (.int .i64 1)⟩,
  ⟨some 9, none, .mov (.t 46)⟩]
def c53_b2 : AC := .seq (.seq (.ops c53_r14 false) (.cond (.t 44) (.skip) (.exit 4))) (.seq (.block 5 (.seq (.ops c53_r16 false) (.seq (.seq (.ops c53_r17 false) (.cond (.t 55) (.seq (.ops c53_r18 false) (.ret)) (.skip))) (.seq (.ops c53_r19 false) (.seq (.ops c53_r20 false) (.cond (.t 61) (.ops c53_r21 false) (.skip))))))) (.ops c53_r15 false))
@[simp] def c53_r22 : List AOper := [⟨some 66, none, .mov (.t 2)⟩,
  ⟨some 67, none, .mov (.t 3)⟩,
  ⟨some 2, none, .mov (.t 66)⟩,
  ⟨some 3, none, .mov (.t 67)⟩,
  ⟨some 4, none, .mov (.int .i64 0)⟩]
@[simp] def c53 : AFn := ⟨68, [.tmp 2, .tmp 3, .tmp 4], .seq (.ops c53_r0 false) (.seq (.ops c53_r1 false) (.seq (.seq (.ops c53_r2 false) (.block 0 (.loop c53_b1 [2, 3, 5, 6] [2, 3, 5]))) (.seq (.ops c53_r10 false) (.seq (.seq (.ops c53_r11 false) (.cond (.t 41) (.seq (.ops c53_r12 false) (.ret)) (.skip))) (.seq (.seq (.ops c53_r13 false) (.block 4 (.loop c53_b2 [2, 3, 5, 8, 9] [2, 3, 5]))) (.seq (.ops c53_r22 false) (.ret)))))))⟩

/-- shackle shackleref14.find -/
@[simp] def c54_r0 : List AOper := [⟨some 2, none, .alo 2 [.nil 1, .nil 1]⟩]
@[simp] def c54_r1 : List AOper := [⟨some 3, none, .alo 3 [.nilv 1, .nilv 1]⟩]
@[simp] def c54_r2 : List AOper := [⟨some 4, none, .mov (.int .i64 0)⟩]
@[simp] def c54_r3 : List AOper := [⟨some 8, none, .mov (.t 4)⟩,
  ⟨some 9, none, .mov (.t 0)⟩,
  ⟨some 10, none, .len (.t 9)⟩,
  ⟨some 11, none, .bin .lss (.t 8) (.t 10)⟩]
@[simp] def c54_r5 : List AOper := [⟨some 15, none, .mov (.t 0)⟩,
  ⟨some 16, none, .mov (.t 4)⟩,
  ⟨some 17, none, .ixi 1 (.t 15) (.t 16)⟩,
  ⟨some 18, none, .ldi 1 false (.t 17)⟩,
  ⟨some 19, none, .call 23 [.t 18] []⟩,
  ⟨some 14, none, .mov (.t 19)⟩,
  ⟨some 20, none, .ext (.t 14) 0⟩,
  ⟨some 21, none, .ext (.t 14) 1⟩,
  ⟨some 5, none, .mov (.t 20)⟩,
  ⟨some 6, none, .mov (.t 21)⟩]
@[simp] def c54_r6 : List AOper := [⟨some 22, none, .mov (.t 6)⟩,
  ⟨some 23, none, .not (.t 22)⟩]
@[simp] def c54_r7 : List AOper := [⟨some 7, none, .mov (.int .i64 0)⟩]
@[simp] def c54_r8 : List AOper := [⟨some 24, none, .mov (.t 5)⟩,
  ⟨some 25, none, .call 29 [.t 24] []⟩,
  ⟨some 26, none, .mov (.t 0)⟩,
  ⟨some 27, none, .mov (.t 4)⟩,
  ⟨some 28, none, .ixi 1 (.t 26) (.t 27)⟩,
  ⟨some 29, none, .ldi 1 false (.t 28)⟩,
  ⟨some 30, none, .bin .eql (.t 25) (.t 29)⟩]
@[simp] def c54_r9 : List AOper := [⟨some 7, none, .mov (.int .i64 1)⟩]
@[simp] def c54_r10 : List AOper := [⟨some 31, none, .fld 0 (.t 3)⟩,
  ⟨some 32, none, .ldo 3 1 false (.t 31)⟩,
  ⟨some 33, none, .mov (.t 5)⟩,
  ⟨some 34, none, .bsl 1 [.t 33]⟩,
  ⟨some 35, none, .app 4000 9 1 16 (.t 32) (.t 34)⟩,
  ⟨some 36, none, .fld 1 (.t 3)⟩,
  ⟨some 37, none, .ldo 3 1 false (.t 36)⟩,
  ⟨some 38, none, .mov (.t 7)⟩,
  ⟨some 39, none, .bsl 1 [.t 38]⟩,
  ⟨some 40, none, .app 4001 3 1 8 (.t 37) (.t 39)⟩,
  ⟨some 41, none, .fld 0 (.t 3)⟩,
  ⟨none, none, .sto 3 1 (.t 41) (.t 35)⟩,
  ⟨some 42, none, .fld 1 (.t 3)⟩,
  ⟨none, none, .sto 3 1 (.t 42) (.t 40)⟩]
@[simp] def c54_r4 : List AOper := [⟨some 12, none, .mov (.t 4)⟩,
  ⟨some 13, none, .bin .add (.t 12) (.int .i64 1)⟩,
  ⟨some 4, none, .mov (.t 13)⟩]
def c54_b0 : AC := .seq (.seq (.ops c54_r3 false) (.cond (.t 11) (.skip) (.exit 0))) (.seq (.block 1 (.seq (.ops c54_r5 false) (.seq (.seq (.ops c54_r6 false) (.cond (.t 23) (.exit 1) (.skip))) (.seq (.ops c54_r7 false) (.seq (.seq (.ops c54_r8 true) (.cond (.t 30) (.ops c54_r9 false) (.skip))) (.ops c54_r10 true)))))) (.ops c54_r4 false))
@[simp] def c54_r11 : List AOper := [⟨some 43, none, .ldo 3 2 true (.t 3)⟩,
  ⟨none, none, .sto 2 2 (.t 2) (.t 43)⟩]
@[simp] def c54 : AFn := ⟨44, [.cell 2 2 true], .seq (.ops c54_r0 false) (.seq (.ops c54_r1 false) (.gh 4000 3 0 9 1 (.gh 4001 3 1 3 1 (.seq (.seq (.ops c54_r2 false) (.block 0 (.loop c54_b0 [0, 2, 3, 4] [2, 3, 4000, 4001]))) (.seq (.ops c54_r11 false) (.ret))))))⟩

/-- (shackle shackleref14.Found).many -/
@[simp] def c55_r0 : List AOper := [⟨some 1, none, .boxi (.t 0)⟩,
  ⟨some 2, none, .mov (.int .i64 0)⟩]
@[simp] def c55_r1 : List AOper := [⟨some 3, none, .mov (.int .i64 (-1))⟩]
@[simp] def c55_r2 : List AOper := [⟨some 4, none, .mov (.int .i64 0)⟩]
@[simp] def c55_r3 : List AOper := [⟨some 7, none, .mov (.t 4)⟩,
  ⟨some 8, none, .fld 0 (.t 1)⟩,
  ⟨some 9, none, .ldi 1 false (.t 8)⟩,
  ⟨some 10, none, .len (.t 9)⟩,
  ⟨some 11, none, .bin .lss (.t 7) (.t 10)⟩]
@[simp] def c55_r5 : List AOper := [⟨some 15, none, .fld 0 (.t 1)⟩,
  ⟨some 16, none, .ldi 1 false (.t 15)⟩,
  ⟨some 17, none, .mov (.t 4)⟩,
  ⟨some 18, none, .ixi 1 (.t 16) (.t 17)⟩,
  ⟨some 19, none, .ldi 1 false (.t 18)⟩,
  ⟨some 20, none, .call 70 [.t 19] []⟩,
  ⟨some 14, none, .mov (.t 20)⟩,
  ⟨some 21, none, .ext (.t 14) 0⟩,
  ⟨some 22, none, .ext (.t 14) 1⟩,
  ⟨some 5, none, .mov (.t 21)⟩,
  ⟨some 6, none, .mov (.t 22)⟩]
@[simp] def c55_r6 : List AOper := [⟨some 23, none, .mov (.t 6)⟩]
@[simp] def c55_r7 : List AOper := [⟨some 24, none, .mov (.t 3)⟩,
  ⟨some 25, none, .mov (.t 5)⟩,
  ⟨some 26, none, .yy (.mx false (.t 24) (.t 25))⟩,
  ⟨some 3, none, .mov (.t 26)⟩]
@[simp] def c55_r4 : List AOper := [⟨some 12, none, .mov (.t 4)⟩,
  ⟨some 13, none, .bin .add (.t 12) (.int .i64 1)⟩,
  ⟨some 4, none, .mov (.t 13)⟩]
def c55_b0 : AC := .seq (.seq (.ops c55_r3 false) (.cond (.t 11) (.skip) (.exit 0))) (.seq (.block 1 (.seq (.ops c55_r5 false) (.seq (.ops c55_r6 false) (.cond (.t 23) (.ops c55_r7 false) (.skip))))) (.ops c55_r4 false))
@[simp] def c55_r8 : List AOper := [⟨some 27, none, .mov (.t 3)⟩,
  ⟨some 2, none, .mov (.t 27)⟩]
@[simp] def c55 : AFn := ⟨28, [.tmp 2], .seq (.ops c55_r0 false) (.seq (.ops c55_r1 false) (.seq (.seq (.ops c55_r2 false) (.block 0 (.loop c55_b0 [1, 3, 4] []))) (.seq (.ops c55_r8 false) (.ret))))⟩

/-- (shackle shackleref14.Found).text -/
@[simp] def c56_r0 : List AOper := [⟨some 2, none, .boxi (.t 0)⟩,
  ⟨some 4, none, .mov (.str [])⟩,
  ⟨some 5, none, .mov (.bool false)⟩,
  ⟨some 6, none, .mov (.bool false)⟩]
@[simp] def c56_r1 : List AOper := [⟨some 7, none, .mov (.int .i64 0)⟩]
@[simp] def c56_r2 : List AOper := [⟨some 11, none, .mov (.t 7)⟩,
  ⟨some 12, none, .fld 0 (.t 2)⟩,
  ⟨some 13, none, .ldi 1 false (.t 12)⟩,
  ⟨some 14, none, .len (.t 13)⟩,
  ⟨some 15, none, .bin .lss (.t 11) (.t 14)⟩]
@[simp] def c56_r4 : List AOper := [⟨some 19, none, .fld 0 (.t 2)⟩,
  ⟨some 20, none, .ldi 1 false (.t 19)⟩,
  ⟨some 21, none, .mov (.t 7)⟩,
  ⟨some 22, none, .ixi 1 (.t 20) (.t 21)⟩,
  ⟨some 23, none, .ldi 1 false (.t 22)⟩,
  ⟨some 24, none, .call 71 [.t 23] []⟩,
  ⟨some 18, none, .mov (.t 24)⟩,
  ⟨some 25, none, .ext (.t 18) 0⟩,
  ⟨some 26, none, .ext (.t 18) 1⟩,
  ⟨some 27, none, .ext (.t 18) 2⟩,
  ⟨some 8, none, .mov (.t 25)⟩,
  ⟨some 9, none, .mov (.t 26)⟩,
  ⟨some 10, none, .mov (.t 27)⟩]
@[simp] def c56_r5 : List AOper := [⟨some 28, none, .mov (.t 10)⟩,
  ⟨some 29, none, .mov (.t 28)⟩,
  ⟨some 30, (some (29, true)), .mov (.t 8)⟩,
  ⟨some 31, (some (29, true)), .mov (.t 1)⟩,
  ⟨some 32, (some (29, true)), .bin .eql (.t 30) (.t 31)⟩,
  ⟨some 33, none, .pick (.t 29) (.t 32) (.bool false)⟩]
@[simp] def c56_r6 : List AOper := [⟨some 34, none, .mov (.t 9)⟩,
  ⟨some 4, none, .mov (.t 34)⟩,
  ⟨some 6, none, .mov (.bool true)⟩]
@[simp] def c56_r7 : List AOper := [⟨some 35, none, .mov (.t 5)⟩,
  ⟨some 36, none, .mov (.t 35)⟩,
  ⟨some 37, (some (36, false)), .fld 1 (.t 2)⟩,
  ⟨some 38, (some (36, false)), .ldi 1 false (.t 37)⟩,
  ⟨some 39, (some (36, false)), .mov (.t 7)⟩,
  ⟨some 40, (some (36, false)), .ixi 1 (.t 38) (.t 39)⟩,
  ⟨some 41, (some (36, false)), .ldi 1 false (.t 40)⟩,
  ⟨some 42, (some (36, false)), .bin .eql (.t 41) (.int .i64 1)⟩,
  ⟨some 43, none, .pick (.t 36) (.bool true) (.t 42)⟩,
  ⟨some 5, none, .mov (.t 43)⟩]
@[simp] def c56_r3 : List AOper := [⟨some 16, none, .mov (.t 7)⟩,
  ⟨some 17, none, .bin .add (.t 16) (.int .i64 1)⟩,
  ⟨some 7, none, .mov (.t 17)⟩]
def c56_b0 : AC := .seq (.seq (.ops c56_r2 false) (.cond (.t 15) (.skip) (.exit 0))) (.seq (.block 1 (.seq (.ops c56_r4 false) (.seq (.ops c56_r5 false) (.cond (.t 33) (.seq (.ops c56_r6 false) (.ops c56_r7 false)) (.skip))))) (.ops c56_r3 false))
@[simp] def c56_r8 : List AOper := [⟨some 44, none, .mov (.t 4)⟩,
  ⟨some 45, none, .mov (.t 5)⟩,
  ⟨some 46, none, .mov (.t 6)⟩,
  ⟨some 4, none, .mov (.t 44)⟩,
  ⟨some 5, none, .mov (.t 45)⟩,
  ⟨some 6, none, .mov (.t 46)⟩]
@[simp] def c56 : AFn := ⟨47, [.tmp 4, .tmp 5, .tmp 6], .seq (.ops c56_r0 false) (.seq (.seq (.ops c56_r1 false) (.block 0 (.loop c56_b0 [1, 2, 4, 5, 6, 7] []))) (.seq (.ops c56_r8 false) (.ret)))⟩

/-- slices.IndexFunc[[]string,string] -/
@[simp] def c57_r0 : List AOper := [⟨some 4, none, .mov (.int .i64 0)⟩]
@[simp] def c57_r1 : List AOper := [⟨some 6, none, .mov (.t 0)⟩,
  ⟨some 7, none, .len (.t 6)⟩,
  ⟨some 8, none, .mov (.int .i64 0)⟩]
@[simp] def c57_r2 : List AOper := [⟨some 9, none, .bin .lss (.t 8) (.t 7)⟩]
@[simp] def c57_r3 : List AOper := [⟨some 10, none, .mov (.t 8)⟩,
  ⟨some 5, none, .mov (.t 10)⟩]
@[simp] def c57_r4 : List AOper := [⟨some 11, none, .mov (.t 1)⟩,
  ⟨some 12, none, .mov (.t 0)⟩,
  ⟨some 13, none, .mov (.t 5)⟩,
  ⟨some 14, none, .ixi 1 (.t 12) (.t 13)⟩,
  ⟨some 15, none, .ldi 1 false (.t 14)⟩,
  ⟨some 16, none, .calld (.t 11) [.t 15] []⟩]
@[simp] def c57_r5 : List AOper := [⟨some 17, none, .mov (.t 5)⟩,
  ⟨some 4, none, .mov (.t 17)⟩]
@[simp] def c57_r6 : List AOper := [⟨some 18, none, .bin .add (.t 8) (.int .i64 1)⟩,
  ⟨some 8, none, .mov (.t 18)⟩]
def c57_b0 : AC := .seq (.ops c57_r2 false) (.seq (.cond (.t 9) (.skip) (.exit 0)) (.seq (.block 1 (.seq (.ops c57_r3 false) (.seq (.ops c57_r4 false) (.cond (.t 16) (.seq (.ops c57_r5 false) (.ret)) (.skip))))) (.ops c57_r6 false)))
@[simp] def c57_r7 : List AOper := [⟨some 4, none, .mov (.int .i64 (-1))⟩]
@[simp] def c57 : AFn := ⟨19, [.tmp 4], .seq (.ops c57_r0 false) (.seq (.seq (.ops c57_r1 false) (.block 0 (.loop c57_b0 [0, 1, 7, 8] []))) (.seq (.ops c57_r7 false) (.ret)))⟩

/-- (shackle books.row).String -/
@[simp] def c58_r0 : List AOper := [⟨some 1, none, .boxi (.t 0)⟩,
  ⟨some 2, none, .mov (.str [])⟩]
@[simp] def c58_r1 : List AOper := [⟨some 3, none, .fld 2 (.t 1)⟩,
  ⟨some 4, none, .ldi 1 false (.t 3)⟩]
@[simp] def c58_r2 : List AOper := [⟨some 5, none, .fld 0 (.t 1)⟩,
  ⟨some 6, none, .ldi 1 false (.t 5)⟩,
  ⟨some 7, none, .call 60 [.t 6] []⟩,
  ⟨some 8, none, .bin .add (.str [46, 46]) (.t 7)⟩,
  ⟨some 2, none, .mov (.t 8)⟩]
@[simp] def c58_r3 : List AOper := [⟨some 9, none, .fld 0 (.t 1)⟩,
  ⟨some 10, none, .ldi 1 false (.t 9)⟩,
  ⟨some 11, none, .call 60 [.t 10] []⟩,
  ⟨some 12, none, .fld 1 (.t 1)⟩,
  ⟨some 13, none, .ldi 1 false (.t 12)⟩,
  ⟨some 14, none, .bin .add (.t 11) (.t 13)⟩,
  ⟨some 2, none, .mov (.t 14)⟩]
@[simp] def c58 : AFn := ⟨15, [.tmp 2], .seq (.ops c58_r0 false) (.seq (.seq (.ops c58_r1 false) (.cond (.t 4) (.seq (.ops c58_r2 false) (.ret)) (.skip))) (.seq (.ops c58_r3 true) (.ret)))⟩

/-- shackle books.sums -/
@[simp] def c59_r0 : List AOper := [⟨some 2, none, .mov (.int .i64 0)⟩,
  ⟨some 3, none, .mov (.int .i64 0)⟩]
@[simp] def c59_r1 : List AOper := [⟨some 6, none, .mov (.t 0)⟩,
  ⟨some 7, none, .lst (.t 6)⟩,
  ⟨some 8, none, .mov (.int .i64 0)⟩]
@[simp] def c59_r2 : List AOper := [⟨some 9, none, .bin .lss (.t 8) (.t 7)⟩]
@[simp] def c59_r3 : List AOper := [⟨some 10, none, .mov (.t 8)⟩,
  ⟨some 4, none, .mov (.t 10)⟩]
@[simp] def c59_r4 : List AOper := [⟨some 11, none, .mov (.t 0)⟩,
  ⟨some 12, none, .mov (.t 4)⟩,
  ⟨some 13, none, .ixs (.t 11) (.t 12)⟩,
  ⟨some 14, none, .cvi .i64 (.t 13)⟩,
  ⟨some 15, none, .bin .sub (.t 14) (.int .i64 32)⟩,
  ⟨some 5, none, .mov (.t 15)⟩]
@[simp] def c59_r5 : List AOper := [⟨some 16, none, .mov (.t 2)⟩,
  ⟨some 17, none, .mov (.t 5)⟩,
  ⟨some 18, none, .bin .add (.t 16) (.t 17)⟩,
  ⟨some 2, none, .mov (.t 18)⟩]
@[simp] def c59_r6 : List AOper := [⟨some 19, none, .mov (.t 3)⟩,
  ⟨some 20, none, .mov (.t 5)⟩,
  ⟨some 21, none, .mov (.t 4)⟩,
  ⟨some 22, none, .bin .add (.t 21) (.int .i64 1)⟩,
  ⟨some 23, none, .bin .mul (.t 20) (.t 22)⟩,
  ⟨some 24, none, .bin .add (.t 19) (.t 23)⟩,
  ⟨some 3, none, .mov (.t 24)⟩]
@[simp] def c59_r7 : List AOper := [⟨some 25, none, .bin .add (.t 8) (.int .i64 1)⟩,
  ⟨some 8, none, .mov (.t 25)⟩]
def c59_b0 : AC := .seq (.ops c59_r2 false) (.seq (.cond (.t 9) (.skip) (.exit 0)) (.seq (.block 1 (.seq (.ops c59_r3 false) (.seq (.ops c59_r4 false) (.seq (.ops c59_r5 false) (.ops c59_r6 false))))) (.ops c59_r7 false)))
@[simp] def c59_r8 : List AOper := [⟨some 26, none, .mov (.t 2)⟩,
  ⟨some 27, none, .bin .rem (.t 26) (.int .i64 97)⟩,
  ⟨some 28, none, .mov (.t 3)⟩,
  ⟨some 29, none, .bin .rem (.t 28) (.int .i64 97)⟩,
  ⟨some 2, none, .mov (.t 27)⟩,
  ⟨some 3, none, .mov (.t 29)⟩]
@[simp] def c59 : AFn := ⟨30, [.tmp 2, .tmp 3], .seq (.ops c59_r0 false) (.seq (.seq (.ops c59_r1 false) (.block 0 (.loop c59_b0 [0, 2, 3, 7, 8] []))) (.seq (.ops c59_r8 false) (.ret)))⟩

/-- shackle books.two -/
@[simp] def c60_r0 : List AOper := [⟨some 2, none, .mov (.str [])⟩]
@[simp] def c60_r1 : List AOper := [⟨some 3, none, .mov (.t 0)⟩,
  ⟨some 4, none, .bin .quo (.t 3) (.int .i64 10)⟩,
  ⟨some 5, none, .bin .add (.int .i64 48) (.t 4)⟩,
  ⟨some 6, none, .cvi .i32 (.t 5)⟩,
  ⟨some 7, none, .mov (.t 0)⟩,
  ⟨some 8, none, .bin .rem (.t 7) (.int .i64 10)⟩,
  ⟨some 9, none, .bin .add (.int .i64 48) (.t 8)⟩,
  ⟨some 10, none, .cvi .i32 (.t 9)⟩,
  ⟨some 11, none, .bsl 1 [.t 6, .t 10]⟩,
  ⟨some 12, none, .yy (.r2s (.t 11))⟩,
  ⟨some 2, none, .mov (.t 12)⟩]
@[simp] def c60 : AFn := ⟨13, [.tmp 2], .seq (.ops c60_r0 false) (.seq (.ops c60_r1 false) (.ret))⟩

/-- shackle shackleref14.isText -/
@[simp] def c61_r0 : List AOper := [⟨some 2, none, .mov (.bool false)⟩]
@[simp] def c61_r1 : List AOper := [⟨some 3, none, .mov (.int .i64 0)⟩]
@[simp] def c61_r2 : List AOper := [⟨some 4, none, .mov (.t 3)⟩,
  ⟨some 5, none, .mov (.t 0)⟩,
  ⟨some 6, none, .lst (.t 5)⟩,
  ⟨some 7, none, .bin .lss (.t 4) (.t 6)⟩]
@[simp] def c61_r4 : List AOper := [⟨some 10, none, .mov (.t 0)⟩,
  ⟨some 11, none, .mov (.t 3)⟩,
  ⟨some 12, none, .ixs (.t 10) (.t 11)⟩,
  ⟨some 13, none, .bin .lss (.t 12) (.int .u8 32)⟩,
  ⟨some 14, none, .mov (.t 13)⟩,
  ⟨some 15, (some (14, false)), .mov (.t 0)⟩,
  ⟨some 16, (some (14, false)), .mov (.t 3)⟩,
  ⟨some 17, (some (14, false)), .ixs (.t 15) (.t 16)⟩,
  ⟨some 18, (some (14, false)), .bin .gtr (.t 17) (.int .u8 126)⟩,
  ⟨some 19, none, .pick (.t 14) (.bool true) (.t 18)⟩]
@[simp] def c61_r5 : List AOper := [⟨some 2, none, .mov (.bool false)⟩]
@[simp] def c61_r3 : List AOper := [⟨some 8, none, .mov (.t 3)⟩,
  ⟨some 9, none, .bin .add (.t 8) (.int .i64 1)⟩,
  ⟨some 3, none, .mov (.t 9)⟩]
def c61_b0 : AC := .seq (.seq (.ops c61_r2 false) (.cond (.t 7) (.skip) (.exit 0))) (.seq (.block 1 (.seq (.ops c61_r4 false) (.cond (.t 19) (.seq (.ops c61_r5 false) (.ret)) (.skip)))) (.ops c61_r3 false))
@[simp] def c61_r6 : List AOper := [⟨some 20, none, .mov (.t 0)⟩,
  ⟨some 21, none, .lst (.t 20)⟩,
  ⟨some 22, none, .bin .leq (.t 21) (.int .i64 60)⟩,
  ⟨some 2, none, .mov (.t 22)⟩]
@[simp] def c61 : AFn := ⟨23, [.tmp 2], .seq (.ops c61_r0 false) (.seq (.seq (.ops c61_r1 false) (.block 0 (.loop c61_b0 [0, 3] []))) (.seq (.ops c61_r6 false) (.ret)))⟩

/-- shackle books.stands -/
@[simp] def c62_r0 : List AOper := [⟨some 2, none, .alo 2 [.int .i64 0, .str [], .bool false]⟩,
  ⟨some 3, none, .mov (.bool false)⟩]
@[simp] def c62_r1 : List AOper := [⟨some 15, none, .mov (.t 0)⟩,
  ⟨some 16, none, .lst (.t 15)⟩,
  ⟨some 17, none, .bin .lss (.t 16) (.int .i64 6)⟩]
@[simp] def c62_r2 : List AOper := [⟨some 18, none, .bld [.int .i64 0, .str [], .bool false] []⟩,
  ⟨none, none, .sto 2 3 (.t 2) (.t 18)⟩,
  ⟨some 3, none, .mov (.bool false)⟩]
@[simp] def c62_r3 : List AOper := [⟨some 19, none, .mov (.t 0)⟩,
  ⟨some 20, none, .mov (.t 0)⟩,
  ⟨some 21, none, .lst (.t 20)⟩,
  ⟨some 22, none, .bin .sub (.t 21) (.int .i64 4)⟩,
  ⟨some 23, none, .sls (.t 19) none (some (.t 22))⟩,
  ⟨some 4, none, .mov (.t 23)⟩]
@[simp] def c62_r4 : List AOper := [⟨some 25, none, .mov (.t 4)⟩,
  ⟨some 26, none, .call 72 [.t 25] []⟩,
  ⟨some 24, none, .mov (.t 26)⟩,
  ⟨some 27, none, .ext (.t 24) 0⟩,
  ⟨some 28, none, .ext (.t 24) 1⟩,
  ⟨some 5, none, .alo 5 [.int .i64 0, .str [], .bool false]⟩,
  ⟨none, none, .sto 5 3 (.t 5) (.t 27)⟩,
  ⟨some 6, none, .mov (.t 28)⟩]
@[simp] def c62_r5 : List AOper := [⟨some 29, none, .mov (.t 6)⟩,
  ⟨some 30, none, .mov (.t 29)⟩,
  ⟨some 31, (some (30, true)), .ldo 5 3 true (.t 5)⟩,
  ⟨some 32, (some (30, true)), .call 41 [.t 31] []⟩,
  ⟨some 33, (some (30, true)), .mov (.t 0)⟩,
  ⟨some 34, (some (30, true)), .call 73 [.t 32, .t 33] []⟩,
  ⟨some 35, (some (30, true)), .bin .leq (.t 34) (.int .i64 1)⟩,
  ⟨some 36, none, .pick (.t 30) (.t 35) (.bool false)⟩]
@[simp] def c62_r6 : List AOper := [⟨some 37, none, .ldo 5 3 true (.t 5)⟩,
  ⟨none, none, .sto 2 3 (.t 2) (.t 37)⟩,
  ⟨some 3, none, .mov (.bool true)⟩]
@[simp] def c62_r7 : List AOper := [⟨some 38, none, .mov (.t 0)⟩,
  ⟨some 39, none, .mov (.t 4)⟩,
  ⟨some 40, none, .lst (.t 39)⟩,
  ⟨some 41, none, .mov (.t 4)⟩,
  ⟨some 42, none, .lst (.t 41)⟩,
  ⟨some 43, none, .bin .add (.t 42) (.int .i64 2)⟩,
  ⟨some 44, none, .sls (.t 38) (some (.t 40)) (some (.t 43))⟩,
  ⟨some 45, none, .call 74 [.t 44] []⟩,
  ⟨some 46, none, .mov (.t 0)⟩,
  ⟨some 47, none, .mov (.t 4)⟩,
  ⟨some 48, none, .lst (.t 47)⟩,
  ⟨some 49, none, .bin .add (.t 48) (.int .i64 2)⟩,
  ⟨some 50, none, .sls (.t 46) (some (.t 49)) none⟩,
  ⟨some 51, none, .call 74 [.t 50] []⟩,
  ⟨some 7, none, .mov (.t 45)⟩,
  ⟨some 8, none, .mov (.t 51)⟩]
@[simp] def c62_r8 : List AOper := [⟨some 52, none, .mov (.t 7)⟩,
  ⟨some 53, none, .bin .lss (.t 52) (.int .i64 0)⟩,
  ⟨some 54, none, .mov (.t 53)⟩,
  ⟨some 55, (some (54, false)), .mov (.t 8)⟩,
  ⟨some 56, (some (54, false)), .bin .lss (.t 55) (.int .i64 0)⟩,
  ⟨some 57, none, .pick (.t 54) (.bool true) (.t 56)⟩]
@[simp] def c62_r9 : List AOper := [⟨some 58, none, .bld [.int .i64 0, .str [], .bool false] []⟩,
  ⟨none, none, .sto 2 3 (.t 2) (.t 58)⟩,
  ⟨some 3, none, .mov (.bool false)⟩]
@[simp] def c62_r10 : List AOper := [⟨some 59, none, .mov (.t 4)⟩,
  ⟨some 60, none, .lst (.t 59)⟩,
  ⟨some 61, none, .mov (.int .i64 0)⟩]
@[simp] def c62_r11 : List AOper := [⟨some 62, none, .bin .lss (.t 61) (.t 60)⟩]
@[simp] def c62_r12 : List AOper := [⟨some 63, none, .mov (.t 61)⟩,
  ⟨some 9, none, .mov (.t 63)⟩]
@[simp] def c62_r13 : List AOper := [⟨some 64, none, .mov (.t 4)⟩,
  ⟨some 65, none, .yy (.s2b 65 (.t 64))⟩,
  ⟨some 10, none, .mov (.t 65)⟩]
@[simp] def c62_r14 : List AOper := [⟨some 66, none, .mov (.t 10)⟩,
  ⟨some 67, none, .mov (.t 9)⟩,
  ⟨some 68, none, .yy (.ixb 65 (.t 66) (.t 67))⟩,
  ⟨none, none, .yy (.stb 65 (.t 68) (.int .u8 32))⟩]
@[simp] def c62_r15 : List AOper := [⟨some 70, none, .mov (.t 10)⟩,
  ⟨some 71, none, .yy (.b2so 65 (.t 70))⟩,
  ⟨some 72, none, .call 59 [.t 71] []⟩,
  ⟨some 69, none, .mov (.t 72)⟩,
  ⟨some 73, none, .ext (.t 69) 0⟩,
  ⟨some 74, none, .ext (.t 69) 1⟩,
  ⟨some 11, none, .mov (.t 73)⟩,
  ⟨some 12, none, .mov (.t 74)⟩]
@[simp] def c62_r16 : List AOper := [⟨some 75, none, .mov (.t 10)⟩,
  ⟨some 76, none, .mov (.t 9)⟩,
  ⟨some 77, none, .yy (.ixb 65 (.t 75) (.t 76))⟩,
  ⟨some 78, none, .yy (.ldb 65 (.t 77))⟩,
  ⟨some 79, none, .mov (.t 7)⟩,
  ⟨some 80, none, .mov (.t 11)⟩,
  ⟨some 81, none, .bin .sub (.t 79) (.t 80)⟩,
  ⟨some 82, none, .bin .rem (.t 81) (.int .i64 97)⟩,
  ⟨some 83, none, .bin .add (.t 82) (.int .i64 97)⟩,
  ⟨some 84, none, .bin .rem (.t 83) (.int .i64 97)⟩,
  ⟨some 85, none, .cvi .u8 (.t 84)⟩,
  ⟨some 86, none, .bin .add (.t 78) (.t 85)⟩,
  ⟨some 87, none, .yy (.ixb 65 (.t 75) (.t 76))⟩,
  ⟨none, none, .yy (.stb 65 (.t 87) (.t 86))⟩]
@[simp] def c62_r17 : List AOper := [⟨some 89, none, .mov (.t 10)⟩,
  ⟨some 90, none, .yy (.b2so 65 (.t 89))⟩,
  ⟨some 91, none, .call 72 [.t 90] []⟩,
  ⟨some 88, none, .mov (.t 91)⟩,
  ⟨some 92, none, .ext (.t 88) 0⟩,
  ⟨some 93, none, .ext (.t 88) 1⟩,
  ⟨some 13, none, .alo 13 [.int .i64 0, .str [], .bool false]⟩,
  ⟨none, none, .sto 13 3 (.t 13) (.t 92)⟩,
  ⟨some 14, none, .mov (.t 93)⟩]
@[simp] def c62_r18 : List AOper := [⟨some 94, none, .mov (.t 14)⟩,
  ⟨some 95, none, .mov (.t 94)⟩,
  ⟨some 96, (some (95, true)), .ldo 13 3 true (.t 13)⟩,
  ⟨some 97, (some (95, true)), .call 41 [.t 96] []⟩,
  ⟨some 98, (some (95, true)), .mov (.t 10)⟩,
  ⟨some 99, (some (95, true)), .yy (.b2so 65 (.t 98))⟩,
  ⟨some 100, (some (95, true)), .mov (.t 0)⟩,
  ⟨some 101, (some (95, true)), .mov (.t 4)⟩,
  ⟨some 102, (some (95, true)), .lst (.t 101)⟩,
  ⟨some 103, (some (95, true)), .sls (.t 100) (some (.t 102)) none⟩,
  ⟨some 104, (some (95, true)), .bin .add (.t 99) (.t 103)⟩,
  ⟨some 105, (some (95, true)), .bin .eql (.t 97) (.t 104)⟩,
  ⟨some 106, none, .pick (.t 95) (.t 105) (.bool false)⟩]
@[simp] def c62_r19 : List AOper := [⟨some 107, none, .ldo 13 3 true (.t 13)⟩,
  ⟨none, none, .sto 2 3 (.t 2) (.t 107)⟩,
  ⟨some 3, none, .mov (.bool true)⟩]
@[simp] def c62_r20 : List AOper := [⟨some 108, none, .bin .add (.t 61) (.int .i64 1)⟩,
  ⟨some 61, none, .mov (.t 108)⟩]
def c62_b0 : AC := .seq (.ops c62_r11 false) (.seq (.cond (.t 62) (.skip) (.exit 0)) (.seq (.block 1 (.seq (.ops c62_r12 false) (.seq (.ops c62_r13 false) (.seq (.ops c62_r14 false) (.seq (.ops c62_r15 false) (.seq (.ops c62_r16 false) (.seq (.ops c62_r17 false) (.seq (.ops c62_r18 true) (.cond (.t 106) (.seq (.ops c62_r19 false) (.ret)) (.skip)))))))))) (.ops c62_r20 false)))
@[simp] def c62_r21 : List AOper := [⟨some 109, none, .bld [.int .i64 0, .str [], .bool false] []⟩,
  ⟨none, none, .sto 2 3 (.t 2) (.t 109)⟩,
  ⟨some 3, none, .mov (.bool false)⟩]
@[simp] def c62 : AFn := ⟨110, [.cell 2 3 true, .tmp 3], .seq (.ops c62_r0 false) (.seq (.seq (.ops c62_r1 false) (.cond (.t 17) (.seq (.ops c62_r2 false) (.ret)) (.skip))) (.seq (.ops c62_r3 false) (.seq (.seq (.ops c62_r4 false) (.seq (.ops c62_r5 false) (.cond (.t 36) (.seq (.ops c62_r6 false) (.ret)) (.skip)))) (.seq (.ops c62_r7 true) (.seq (.seq (.ops c62_r8 false) (.cond (.t 57) (.seq (.ops c62_r9 false) (.ret)) (.skip))) (.seq (.seq (.ops c62_r10 false) (.block 0 (.loop c62_b0 [0, 2, 4, 7, 60, 61] [2]))) (.seq (.ops c62_r21 false) (.ret))))))))⟩

/-- shackle books.with[int] -/
@[simp] def c63_r0 : List AOper := [⟨some 4, none, .mov (.nil 1)⟩]
@[simp] def c63_r1 : List AOper := [⟨some 5, none, .mov (.t 0)⟩,
  ⟨some 6, none, .mov (.t 1)⟩,
  ⟨some 7, none, .call 75 [.t 5, .t 6] [0]⟩]
@[simp] def c63_r2 : List AOper := [⟨some 8, none, .mov (.t 0)⟩,
  ⟨some 4, none, .mov (.t 8)⟩]
@[simp] def c63_r3 : List AOper := [⟨some 9, none, .mov (.t 0)⟩,
  ⟨some 10, none, .mov (.t 1)⟩,
  ⟨some 11, none, .bsl 1 [.t 10]⟩,
  ⟨some 12, none, .app 0 3 1 8 (.t 9) (.t 11)⟩,
  ⟨some 4, none, .mov (.t 12)⟩]
@[simp] def c63 : AFn := ⟨13, [.tmp 4], .seq (.ops c63_r0 false) (.seq (.seq (.ops c63_r1 false) (.cond (.t 7) (.seq (.ops c63_r2 false) (.ret)) (.skip))) (.seq (.ops c63_r3 false) (.ret)))⟩

/-- shackle books.with[string] -/
@[simp] def c64_r0 : List AOper := [⟨some 4, none, .mov (.nil 1)⟩]
@[simp] def c64_r1 : List AOper := [⟨some 5, none, .mov (.t 0)⟩,
  ⟨some 6, none, .mov (.t 1)⟩,
  ⟨some 7, none, .call 76 [.t 5, .t 6] [0]⟩]
@[simp] def c64_r2 : List AOper := [⟨some 8, none, .mov (.t 0)⟩,
  ⟨some 4, none, .mov (.t 8)⟩]
@[simp] def c64_r3 : List AOper := [⟨some 9, none, .mov (.t 0)⟩,
  ⟨some 10, none, .mov (.t 1)⟩,
  ⟨some 11, none, .bsl 1 [.t 10]⟩,
  ⟨some 12, none, .app 0 9 1 16 (.t 9) (.t 11)⟩,
  ⟨some 4, none, .mov (.t 12)⟩]
@[simp] def c64 : AFn := ⟨13, [.tmp 4], .seq (.ops c64_r0 false) (.seq (.seq (.ops c64_r1 false) (.cond (.t 7) (.seq (.ops c64_r2 false) (.ret)) (.skip))) (.seq (.ops c64_r3 false) (.ret)))⟩

/-- shackle shackleref14.IsRow -/
@[simp] def c65_r0 : List AOper := [⟨some 2, none, .mov (.bool false)⟩]
@[simp] def c65_r1 : List AOper := [⟨some 9, none, .mov (.t 0)⟩,
  ⟨some 10, none, .call 71 [.t 9] []⟩,
  ⟨some 8, none, .mov (.t 10)⟩,
  ⟨some 11, none, .ext (.t 8) 0⟩,
  ⟨some 12, none, .ext (.t 8) 1⟩,
  ⟨some 13, none, .ext (.t 8) 2⟩,
  ⟨some 3, none, .mov (.t 11)⟩,
  ⟨some 4, none, .mov (.t 12)⟩,
  ⟨some 5, none, .mov (.t 13)⟩]
@[simp] def c65_r2 : List AOper := [⟨some 15, none, .mov (.t 0)⟩,
  ⟨some 16, none, .call 70 [.t 15] []⟩,
  ⟨some 14, none, .mov (.t 16)⟩,
  ⟨some 17, none, .ext (.t 14) 0⟩,
  ⟨some 18, none, .ext (.t 14) 1⟩,
  ⟨some 6, none, .mov (.t 17)⟩,
  ⟨some 7, none, .mov (.t 18)⟩]
@[simp] def c65_r3 : List AOper := [⟨some 19, none, .mov (.t 5)⟩,
  ⟨some 20, none, .mov (.t 19)⟩,
  ⟨some 21, (some (20, false)), .mov (.t 7)⟩,
  ⟨some 22, none, .pick (.t 20) (.bool true) (.t 21)⟩,
  ⟨some 2, none, .mov (.t 22)⟩]
@[simp] def c65 : AFn := ⟨23, [.tmp 2], .seq (.ops c65_r0 false) (.seq (.ops c65_r1 false) (.seq (.ops c65_r2 false) (.seq (.ops c65_r3 false) (.ret))))⟩

/-- shackle shackleref14.apart -/
@[simp] def c66_r0 : List AOper := [⟨some 4, none, .mov (.int .i64 0)⟩]
@[simp] def c66_r1 : List AOper := [⟨some 5, none, .mov (.int .i64 0)⟩]
@[simp] def c66_r2 : List AOper := [⟨some 6, none, .mov (.int .i64 0)⟩]
@[simp] def c66_r3 : List AOper := [⟨some 7, none, .mov (.t 6)⟩,
  ⟨some 8, none, .mov (.t 0)⟩,
  ⟨some 9, none, .lst (.t 8)⟩,
  ⟨some 10, none, .bin .lss (.t 7) (.t 9)⟩]
@[simp] def c66_r5 : List AOper := [⟨some 13, none, .mov (.t 0)⟩,
  ⟨some 14, none, .mov (.t 6)⟩,
  ⟨some 15, none, .ixs (.t 13) (.t 14)⟩,
  ⟨some 16, none, .mov (.t 1)⟩,
  ⟨some 17, none, .mov (.t 6)⟩,
  ⟨some 18, none, .ixs (.t 16) (.t 17)⟩,
  ⟨some 19, none, .bin .neq (.t 15) (.t 18)⟩]
@[simp] def c66_r6 : List AOper := [⟨some 20, none, .mov (.t 5)⟩,
  ⟨some 21, none, .bin .add (.t 20) (.int .i64 1)⟩,
  ⟨some 5, none, .mov (.t 21)⟩]
@[simp] def c66_r4 : List AOper := [⟨some 11, none, .mov (.t 6)⟩,
  ⟨some 12, none, .bin .add (.t 11) (.int .i64 1)⟩,
  ⟨some 6, none, .mov (.t 12)⟩]
def c66_b0 : AC := .seq (.seq (.ops c66_r3 false) (.cond (.t 10) (.skip) (.exit 0))) (.seq (.block 1 (.seq (.ops c66_r5 true) (.cond (.t 19) (.ops c66_r6 false) (.skip)))) (.ops c66_r4 false))
@[simp] def c66_r7 : List AOper := [⟨some 22, none, .mov (.t 5)⟩,
  ⟨some 4, none, .mov (.t 22)⟩]
@[simp] def c66 : AFn := ⟨23, [.tmp 4], .seq (.ops c66_r0 false) (.seq (.ops c66_r1 false) (.seq (.seq (.ops c66_r2 false) (.block 0 (.loop c66_b0 [0, 1, 5, 6] []))) (.seq (.ops c66_r7 false) (.ret))))⟩

/-- strings.CutSuffix -/
@[simp] def c67_r0 : List AOper := [⟨some 4, none, .mov (.str [])⟩,
  ⟨some 5, none, .mov (.bool false)⟩]
@[simp] def c67_r1 : List AOper := [⟨some 6, none, .mov (.t 0)⟩,
  ⟨some 7, none, .mov (.t 1)⟩,
  ⟨some 8, none, .call 77 [.t 6, .t 7] []⟩,
  ⟨some 9, none, .ext (.t 8) 0⟩,
  ⟨some 10, none, .ext (.t 8) 1⟩,
  ⟨some 4, none, .mov (.t 9)⟩,
  ⟨some 5, none, .mov (.t 10)⟩]
@[simp] def c67 : AFn := ⟨11, [.tmp 4, .tmp 5], .seq (.ops c67_r0 false) (.seq (.ops c67_r1 false) (.ret))⟩

/-- shackle shackleref14.clash -/
@[simp] def c69_r0 : List AOper := [⟨some 4, none, .mov (.bool false)⟩]
@[simp] def c69_r1 : List AOper := [⟨some 16, none, .mov (.t 0)⟩,
  ⟨some 17, none, .call 71 [.t 16] []⟩,
  ⟨some 15, none, .mov (.t 17)⟩,
  ⟨some 18, none, .ext (.t 15) 0⟩,
  ⟨some 19, none, .ext (.t 15) 1⟩,
  ⟨some 20, none, .ext (.t 15) 2⟩,
  ⟨some 5, none, .mov (.t 18)⟩,
  ⟨some 6, none, .mov (.t 19)⟩,
  ⟨some 7, none, .mov (.t 20)⟩]
@[simp] def c69_r2 : List AOper := [⟨some 22, none, .mov (.t 1)⟩,
  ⟨some 23, none, .call 71 [.t 22] []⟩,
  ⟨some 21, none, .mov (.t 23)⟩,
  ⟨some 24, none, .ext (.t 21) 0⟩,
  ⟨some 25, none, .ext (.t 21) 1⟩,
  ⟨some 26, none, .ext (.t 21) 2⟩,
  ⟨some 8, none, .mov (.t 24)⟩,
  ⟨some 9, none, .mov (.t 25)⟩,
  ⟨some 10, none, .mov (.t 26)⟩]
@[simp] def c69_r3 : List AOper := [⟨some 27, none, .mov (.t 7)⟩,
  ⟨some 28, none, .mov (.t 27)⟩,
  ⟨some 29, (some (28, true)), .mov (.t 10)⟩,
  ⟨some 30, none, .pick (.t 28) (.t 29) (.bool false)⟩]
@[simp] def c69_r4 : List AOper := [⟨some 31, none, .mov (.t 5)⟩,
  ⟨some 32, none, .mov (.t 8)⟩,
  ⟨some 33, none, .bin .eql (.t 31) (.t 32)⟩,
  ⟨some 34, none, .mov (.t 33)⟩,
  ⟨some 35, (some (34, true)), .mov (.t 6)⟩,
  ⟨some 36, (some (34, true)), .mov (.t 9)⟩,
  ⟨some 37, (some (34, true)), .bin .neq (.t 35) (.t 36)⟩,
  ⟨some 38, none, .pick (.t 34) (.t 37) (.bool false)⟩,
  ⟨some 4, none, .mov (.t 38)⟩]
@[simp] def c69_r5 : List AOper := [⟨some 39, none, .mov (.t 7)⟩]
@[simp] def c69_r6 : List AOper := [⟨some 41, none, .mov (.t 1)⟩,
  ⟨some 42, none, .call 70 [.t 41] []⟩,
  ⟨some 40, none, .mov (.t 42)⟩,
  ⟨some 43, none, .ext (.t 40) 0⟩,
  ⟨some 44, none, .ext (.t 40) 1⟩,
  ⟨some 11, none, .mov (.t 43)⟩,
  ⟨some 12, none, .mov (.t 44)⟩]
@[simp] def c69_r7 : List AOper := [⟨some 45, none, .mov (.t 5)⟩,
  ⟨some 46, none, .mov (.t 11)⟩,
  ⟨some 47, none, .bin .geq (.t 45) (.t 46)⟩,
  ⟨some 4, none, .mov (.t 47)⟩]
@[simp] def c69_r8 : List AOper := [⟨some 48, none, .mov (.t 10)⟩]
@[simp] def c69_r9 : List AOper := [⟨some 50, none, .mov (.t 0)⟩,
  ⟨some 51, none, .call 70 [.t 50] []⟩,
  ⟨some 49, none, .mov (.t 51)⟩,
  ⟨some 52, none, .ext (.t 49) 0⟩,
  ⟨some 53, none, .ext (.t 49) 1⟩,
  ⟨some 13, none, .mov (.t 52)⟩,
  ⟨some 14, none, .mov (.t 53)⟩]
@[simp] def c69_r10 : List AOper := [⟨some 54, none, .mov (.t 8)⟩,
  ⟨some 55, none, .mov (.t 13)⟩,
  ⟨some 56, none, .bin .geq (.t 54) (.t 55)⟩,
  ⟨some 4, none, .mov (.t 56)⟩]
@[simp] def c69_r11 : List AOper := [⟨some 57, none, .mov (.t 0)⟩,
  ⟨some 58, none, .mov (.t 1)⟩,
  ⟨some 59, none, .bin .neq (.t 57) (.t 58)⟩,
  ⟨some 4, none, .mov (.t 59)⟩]
@[simp] def c69 : AFn := ⟨60, [.tmp 4], .seq (.ops c69_r0 false) (.seq (.ops c69_r1 false) (.seq (.ops c69_r2 false) (.seq (.seq (.ops c69_r3 false) (.cond (.t 30) (.seq (.ops c69_r4 false) (.ret)) (.skip))) (.seq (.seq (.ops c69_r5 false) (.cond (.t 39) (.seq (.ops c69_r6 false) (.seq (.ops c69_r7 false) (.ret))) (.skip))) (.seq (.seq (.ops c69_r8 false) (.cond (.t 48) (.seq (.ops c69_r9 false) (.seq (.ops c69_r10 false) (.ret))) (.skip))) (.seq (.ops c69_r11 false) (.ret)))))))⟩

/-- shackle shackleref14.ManyOf -/
@[simp] def c70_r0 : List AOper := [⟨some 2, none, .mov (.int .i64 0)⟩,
  ⟨some 3, none, .mov (.bool false)⟩]
@[simp] def c70_r1 : List AOper := [⟨some 5, none, .mov (.t 0)⟩,
  ⟨some 6, none, .lst (.t 5)⟩,
  ⟨some 7, none, .bin .neq (.t 6) (.int .i64 4)⟩,
  ⟨some 8, none, .mov (.t 7)⟩,
  ⟨some 9, (some (8, false)), .mov (.t 0)⟩,
  ⟨some 10, (some (8, false)), .sls (.t 9) none (some (.int .i64 2))⟩,
  ⟨some 11, (some (8, false)), .bin .neq (.t 10) (.str [46, 46])⟩,
  ⟨some 12, none, .pick (.t 8) (.bool true) (.t 11)⟩]
@[simp] def c70_r2 : List AOper := [⟨some 2, none, .mov (.int .i64 0)⟩,
  ⟨some 3, none, .mov (.bool false)⟩]
@[simp] def c70_r3 : List AOper := [⟨some 13, none, .mov (.t 0)⟩,
  ⟨some 14, none, .sls (.t 13) (some (.int .i64 2)) none⟩,
  ⟨some 15, none, .call 48 [.t 14] []⟩,
  ⟨some 4, none, .mov (.t 15)⟩]
@[simp] def c70_r4 : List AOper := [⟨some 16, none, .mov (.t 4)⟩,
  ⟨some 17, none, .mov (.t 4)⟩,
  ⟨some 18, none, .bin .geq (.t 17) (.int .i64 0)⟩,
  ⟨some 19, none, .mov (.t 18)⟩,
  ⟨some 20, (some (19, true)), .mov (.t 4)⟩,
  ⟨some 21, (some (19, true)), .bin .leq (.t 20) (.int .i64 40)⟩,
  ⟨some 22, none, .pick (.t 19) (.t 21) (.bool false)⟩,
  ⟨some 2, none, .mov (.t 16)⟩,
  ⟨some 3, none, .mov (.t 22)⟩]
@[simp] def c70 : AFn := ⟨23, [.tmp 2, .tmp 3], .seq (.ops c70_r0 false) (.seq (.seq (.ops c70_r1 false) (.cond (.t 12) (.seq (.ops c70_r2 false) (.ret)) (.skip))) (.seq (.ops c70_r3 false) (.seq (.ops c70_r4 false) (.ret))))⟩

/-- shackle shackleref14.NumberOf -/
@[simp] def c71_r0 : List AOper := [⟨some 2, none, .mov (.int .i64 0)⟩,
  ⟨some 3, none, .mov (.str [])⟩,
  ⟨some 4, none, .mov (.bool false)⟩]
@[simp] def c71_r1 : List AOper := [⟨some 6, none, .mov (.t 0)⟩,
  ⟨some 7, none, .lst (.t 6)⟩,
  ⟨some 8, none, .bin .lss (.t 7) (.int .i64 2)⟩,
  ⟨some 9, none, .mov (.t 8)⟩,
  ⟨some 10, (some (9, false)), .mov (.t 0)⟩,
  ⟨some 11, (some (9, false)), .sls (.t 10) (some (.int .i64 2)) none⟩,
  ⟨some 12, (some (9, false)), .call 61 [.t 11] []⟩,
  ⟨some 13, (some (9, false)), .not (.t 12)⟩,
  ⟨some 14, none, .pick (.t 9) (.bool true) (.t 13)⟩]
@[simp] def c71_r2 : List AOper := [⟨some 2, none, .mov (.int .i64 0)⟩,
  ⟨some 3, none, .mov (.str [])⟩,
  ⟨some 4, none, .mov (.bool false)⟩]
@[simp] def c71_r3 : List AOper := [⟨some 15, none, .mov (.t 0)⟩,
  ⟨some 16, none, .sls (.t 15) none (some (.int .i64 2))⟩,
  ⟨some 17, none, .call 48 [.t 16] []⟩,
  ⟨some 5, none, .mov (.t 17)⟩]
@[simp] def c71_r4 : List AOper := [⟨some 18, none, .mov (.t 5)⟩,
  ⟨some 19, none, .mov (.t 0)⟩,
  ⟨some 20, none, .sls (.t 19) (some (.int .i64 2)) none⟩,
  ⟨some 21, none, .mov (.t 5)⟩,
  ⟨some 22, none, .bin .geq (.t 21) (.int .i64 0)⟩,
  ⟨some 23, none, .mov (.t 22)⟩,
  ⟨some 24, (some (23, true)), .mov (.t 5)⟩,
  ⟨some 25, (some (23, true)), .bin .lss (.t 24) (.int .i64 40)⟩,
  ⟨some 26, none, .pick (.t 23) (.t 25) (.bool false)⟩,
  ⟨some 2, none, .mov (.t 18)⟩,
  ⟨some 3, none, .mov (.t 20)⟩,
  ⟨some 4, none, .mov (.t 26)⟩]
@[simp] def c71 : AFn := ⟨27, [.tmp 2, .tmp 3, .tmp 4], .seq (.ops c71_r0 false) (.seq (.seq (.ops c71_r1 false) (.cond (.t 14) (.seq (.ops c71_r2 false) (.ret)) (.skip))) (.seq (.ops c71_r3 false) (.seq (.ops c71_r4 true) (.ret))))⟩

/-- shackle books.parse -/
@[simp] def c72_r0 : List AOper := [⟨some 2, none, .alo 2 [.int .i64 0, .str [], .bool false]⟩,
  ⟨some 3, none, .mov (.bool false)⟩]
@[simp] def c72_r1 : List AOper := [⟨some 8, none, .mov (.t 0)⟩,
  ⟨some 9, none, .lst (.t 8)⟩,
  ⟨some 10, none, .bin .lss (.t 9) (.int .i64 2)⟩]
@[simp] def c72_r2 : List AOper := [⟨some 11, none, .bld [.int .i64 0, .str [], .bool false] []⟩,
  ⟨none, none, .sto 2 3 (.t 2) (.t 11)⟩,
  ⟨some 3, none, .mov (.bool false)⟩]
@[simp] def c72_r3 : List AOper := [⟨some 12, none, .mov (.t 0)⟩,
  ⟨some 13, none, .sls (.t 12) none (some (.int .i64 2))⟩,
  ⟨some 14, none, .mov (.t 0)⟩,
  ⟨some 15, none, .sls (.t 14) (some (.int .i64 2)) none⟩,
  ⟨some 4, none, .mov (.t 13)⟩,
  ⟨some 5, none, .mov (.t 15)⟩]
@[simp] def c72_r4 : List AOper := [⟨some 16, none, .mov (.t 4)⟩,
  ⟨some 17, none, .bin .eql (.t 16) (.str [46, 46])⟩]
@[simp] def c72_r5 : List AOper := [⟨some 18, none, .mov (.t 5)⟩,
  ⟨some 19, none, .lst (.t 18)⟩,
  ⟨some 20, none, .bin .neq (.t 19) (.int .i64 2)⟩]
@[simp] def c72_r6 : List AOper := [⟨some 21, none, .bld [.int .i64 0, .str [], .bool false] []⟩,
  ⟨none, none, .sto 2 3 (.t 2) (.t 21)⟩,
  ⟨some 3, none, .mov (.bool false)⟩]
@[simp] def c72_r7 : List AOper := [⟨some 22, none, .mov (.t 5)⟩,
  ⟨some 23, none, .call 74 [.t 22] []⟩,
  ⟨some 6, none, .mov (.t 23)⟩]
@[simp] def c72_r8 : List AOper := [⟨some 24, none, .mov (.t 6)⟩,
  ⟨some 25, none, .bld [.int .i64 0, .str [], .bool false] [(0, 1, .t 24), (1, 1, .str []), (2, 1, .bool true)]⟩,
  ⟨some 26, none, .mov (.t 6)⟩,
  ⟨some 27, none, .bin .leq (.int .i64 0) (.t 26)⟩,
  ⟨some 28, none, .mov (.t 27)⟩,
  ⟨some 29, (some (28, true)), .mov (.t 6)⟩,
  ⟨some 30, (some (28, true)), .bin .leq (.t 29) (.int .i64 40)⟩,
  ⟨some 31, none, .pick (.t 28) (.t 30) (.bool false)⟩,
  ⟨none, none, .sto 2 3 (.t 2) (.t 25)⟩,
  ⟨some 3, none, .mov (.t 31)⟩]
@[simp] def c72_r9 : List AOper := [⟨some 32, none, .mov (.t 4)⟩,
  ⟨some 33, none, .call 74 [.t 32] []⟩,
  ⟨some 7, none, .mov (.t 33)⟩]
@[simp] def c72_r10 : List AOper := [⟨some 34, none, .mov (.t 7)⟩,
  ⟨some 35, none, .mov (.t 5)⟩,
  ⟨some 36, none, .bld [.int .i64 0, .str [], .bool false] [(0, 1, .t 34), (1, 1, .t 35), (2, 1, .bool false)]⟩,
  ⟨some 37, none, .mov (.t 7)⟩,
  ⟨some 38, none, .bin .leq (.int .i64 0) (.t 37)⟩,
  ⟨some 39, none, .mov (.t 38)⟩,
  ⟨some 40, (some (39, true)), .mov (.t 7)⟩,
  ⟨some 41, (some (39, true)), .bin .lss (.t 40) (.int .i64 40)⟩,
  ⟨some 42, none, .pick (.t 39) (.t 41) (.bool false)⟩,
  ⟨some 43, none, .mov (.t 42)⟩,
  ⟨some 44, (some (43, true)), .mov (.t 5)⟩,
  ⟨some 45, (some (43, true)), .call 40 [.t 44] []⟩,
  ⟨some 46, none, .pick (.t 43) (.t 45) (.bool false)⟩,
  ⟨none, none, .sto 2 3 (.t 2) (.t 36)⟩,
  ⟨some 3, none, .mov (.t 46)⟩]
@[simp] def c72 : AFn := ⟨47, [.cell 2 3 true, .tmp 3], .seq (.ops c72_r0 false) (.seq (.seq (.ops c72_r1 false) (.cond (.t 10) (.seq (.ops c72_r2 false) (.ret)) (.skip))) (.seq (.ops c72_r3 true) (.seq (.seq (.ops c72_r4 false) (.cond (.t 17) (.seq (.seq (.ops c72_r5 false) (.cond (.t 20) (.seq (.ops c72_r6 false) (.ret)) (.skip))) (.seq (.ops c72_r7 false) (.seq (.ops c72_r8 false) (.ret)))) (.skip))) (.seq (.ops c72_r9 false) (.seq (.ops c72_r10 false) (.ret))))))⟩

/-- shackle books.differ -/
@[simp] def c73_r0 : List AOper := [⟨some 4, none, .mov (.int .i64 0)⟩]
@[simp] def c73_r1 : List AOper := [⟨some 5, none, .mov (.int .i64 0)⟩]
@[simp] def c73_r2 : List AOper := [⟨some 7, none, .mov (.t 0)⟩,
  ⟨some 8, none, .lst (.t 7)⟩,
  ⟨some 9, none, .mov (.int .i64 0)⟩]
@[simp] def c73_r3 : List AOper := [⟨some 10, none, .bin .lss (.t 9) (.t 8)⟩]
@[simp] def c73_r4 : List AOper := [⟨some 11, none, .mov (.t 9)⟩,
  ⟨some 6, none, .mov (.t 11)⟩]
@[simp] def c73_r5 : List AOper := [⟨some 12, none, .mov (.t 0)⟩,
  ⟨some 13, none, .mov (.t 6)⟩,
  ⟨some 14, none, .ixs (.t 12) (.t 13)⟩,
  ⟨some 15, none, .mov (.t 1)⟩,
  ⟨some 16, none, .mov (.t 6)⟩,
  ⟨some 17, none, .ixs (.t 15) (.t 16)⟩,
  ⟨some 18, none, .bin .neq (.t 14) (.t 17)⟩]
@[simp] def c73_r6 : List AOper := [⟨some 19, none, .mov (.t 5)⟩,
  ⟨some 20, none, .bin .add (.t 19) (.int .i64 1)⟩,
  ⟨some 5, none, .mov (.t 20)⟩]
@[simp] def c73_r7 : List AOper := [⟨some 21, none, .bin .add (.t 9) (.int .i64 1)⟩,
  ⟨some 9, none, .mov (.t 21)⟩]
def c73_b0 : AC := .seq (.ops c73_r3 false) (.seq (.cond (.t 10) (.skip) (.exit 0)) (.seq (.block 1 (.seq (.ops c73_r4 false) (.seq (.ops c73_r5 true) (.cond (.t 18) (.ops c73_r6 false) (.skip))))) (.ops c73_r7 false)))
@[simp] def c73_r8 : List AOper := [⟨some 22, none, .mov (.t 5)⟩,
  ⟨some 4, none, .mov (.t 22)⟩]
@[simp] def c73 : AFn := ⟨23, [.tmp 4], .seq (.ops c73_r0 false) (.seq (.ops c73_r1 false) (.seq (.seq (.ops c73_r2 false) (.block 0 (.loop c73_b0 [0, 1, 5, 8, 9] []))) (.seq (.ops c73_r8 false) (.ret))))⟩

/-- shackle books.untwo -/
@[simp] def c74_r0 : List AOper := [⟨some 2, none, .mov (.int .i64 0)⟩]
@[simp] def c74_r1 : List AOper := [⟨some 5, none, .mov (.t 0)⟩,
  ⟨some 6, none, .ixs (.t 5) (.int .i64 0)⟩,
  ⟨some 7, none, .cvi .i64 (.t 6)⟩,
  ⟨some 8, none, .bin .sub (.t 7) (.int .i64 48)⟩,
  ⟨some 9, none, .mov (.t 0)⟩,
  ⟨some 10, none, .ixs (.t 9) (.int .i64 1)⟩,
  ⟨some 11, none, .cvi .i64 (.t 10)⟩,
  ⟨some 12, none, .bin .sub (.t 11) (.int .i64 48)⟩,
  ⟨some 3, none, .mov (.t 8)⟩,
  ⟨some 4, none, .mov (.t 12)⟩]
@[simp] def c74_r2 : List AOper := [⟨some 13, none, .mov (.t 3)⟩,
  ⟨some 14, none, .bin .lss (.t 13) (.int .i64 0)⟩,
  ⟨some 15, none, .mov (.t 14)⟩,
  ⟨some 16, (some (15, false)), .mov (.t 3)⟩,
  ⟨some 17, (some (15, false)), .bin .gtr (.t 16) (.int .i64 9)⟩,
  ⟨some 18, none, .pick (.t 15) (.bool true) (.t 17)⟩,
  ⟨some 19, none, .mov (.t 18)⟩,
  ⟨some 20, (some (19, false)), .mov (.t 4)⟩,
  ⟨some 21, (some (19, false)), .bin .lss (.t 20) (.int .i64 0)⟩,
  ⟨some 22, none, .pick (.t 19) (.bool true) (.t 21)⟩,
  ⟨some 23, none, .mov (.t 22)⟩,
  ⟨some 24, (some (23, false)), .mov (.t 4)⟩,
  ⟨some 25, (some (23, false)), .bin .gtr (.t 24) (.int .i64 9)⟩,
  ⟨some 26, none, .pick (.t 23) (.bool true) (.t 25)⟩]
@[simp] def c74_r3 : List AOper := [⟨some 2, none, .mov (.int .i64 (-1))⟩]
@[simp] def c74_r4 : List AOper := [⟨some 27, none, .mov (.t 3)⟩,
  ⟨some 28, none, .bin .mul (.int .i64 10) (.t 27)⟩,
  ⟨some 29, none, .mov (.t 4)⟩,
  ⟨some 30, none, .bin .add (.t 28) (.t 29)⟩,
  ⟨some 2, none, .mov (.t 30)⟩]
@[simp] def c74 : AFn := ⟨31, [.tmp 2], .seq (.ops c74_r0 false) (.seq (.ops c74_r1 true) (.seq (.seq (.ops c74_r2 false) (.cond (.t 26) (.seq (.ops c74_r3 false) (.ret)) (.skip))) (.seq (.ops c74_r4 false) (.ret))))⟩

/-- slices.Contains[[]int,int] -/
@[simp] def c75_r0 : List AOper := [⟨some 4, none, .mov (.bool false)⟩]
@[simp] def c75_r1 : List AOper := [⟨some 5, none, .mov (.t 0)⟩,
  ⟨some 6, none, .mov (.t 1)⟩,
  ⟨some 7, none, .call 79 [.t 5, .t 6] []⟩,
  ⟨some 8, none, .bin .geq (.t 7) (.int .i64 0)⟩,
  ⟨some 4, none, .mov (.t 8)⟩]
@[simp] def c75 : AFn := ⟨9, [.tmp 4], .seq (.ops c75_r0 false) (.seq (.ops c75_r1 false) (.ret))⟩

/-- slices.Contains[[]string,string] -/
@[simp] def c76_r0 : List AOper := [⟨some 4, none, .mov (.bool false)⟩]
@[simp] def c76_r1 : List AOper := [⟨some 5, none, .mov (.t 0)⟩,
  ⟨some 6, none, .mov (.t 1)⟩,
  ⟨some 7, none, .call 80 [.t 5, .t 6] []⟩,
  ⟨some 8, none, .bin .geq (.t 7) (.int .i64 0)⟩,
  ⟨some 4, none, .mov (.t 8)⟩]
@[simp] def c76 : AFn := ⟨9, [.tmp 4], .seq (.ops c76_r0 false) (.seq (.ops c76_r1 false) (.ret))⟩

/-- internal stringslite.CutSuffix -/
@[simp] def c77_r0 : List AOper := [⟨some 4, none, .mov (.str [])⟩,
  ⟨some 5, none, .mov (.bool false)⟩]
@[simp] def c77_r1 : List AOper := [⟨some 6, none, .mov (.t 0)⟩,
  ⟨some 7, none, .mov (.t 1)⟩,
  ⟨some 8, none, .call 81 [.t 6, .t 7] []⟩,
  ⟨some 9, none, .not (.t 8)⟩]
@[simp] def c77_r2 : List AOper := [⟨some 10, none, .mov (.t 0)⟩,
  ⟨some 4, none, .mov (.t 10)⟩,
  ⟨some 5, none, .mov (.bool false)⟩]
@[simp] def c77_r3 : List AOper := [⟨some 11, none, .mov (.t 0)⟩,
  ⟨some 12, none, .mov (.t 0)⟩,
  ⟨some 13, none, .lst (.t 12)⟩,
  ⟨some 14, none, .mov (.t 1)⟩,
  ⟨some 15, none, .lst (.t 14)⟩,
  ⟨some 16, none, .bin .sub (.t 13) (.t 15)⟩,
  ⟨some 17, none, .sls (.t 11) none (some (.t 16))⟩,
  ⟨some 4, none, .mov (.t 17)⟩,
  ⟨some 5, none, .mov (.bool true)⟩]
@[simp] def c77 : AFn := ⟨18, [.tmp 4, .tmp 5], .seq (.ops c77_r0 false) (.seq (.seq (.ops c77_r1 false) (.cond (.t 9) (.seq (.ops c77_r2 false) (.ret)) (.skip))) (.seq (.ops c77_r3 false) (.ret)))⟩

/-- slices.Index[[]int,int] -/
@[simp] def c79_r0 : List AOper := [⟨some 4, none, .mov (.int .i64 0)⟩]
@[simp] def c79_r1 : List AOper := [⟨some 6, none, .mov (.t 0)⟩,
  ⟨some 7, none, .len (.t 6)⟩,
  ⟨some 8, none, .mov (.int .i64 0)⟩]
@[simp] def c79_r2 : List AOper := [⟨some 9, none, .bin .lss (.t 8) (.t 7)⟩]
@[simp] def c79_r3 : List AOper := [⟨some 10, none, .mov (.t 8)⟩,
  ⟨some 5, none, .mov (.t 10)⟩]
@[simp] def c79_r4 : List AOper := [⟨some 11, none, .mov (.t 1)⟩,
  ⟨some 12, none, .mov (.t 0)⟩,
  ⟨some 13, none, .mov (.t 5)⟩,
  ⟨some 14, none, .ixi 1 (.t 12) (.t 13)⟩,
  ⟨some 15, none, .ldi 1 false (.t 14)⟩,
  ⟨some 16, none, .bin .eql (.t 11) (.t 15)⟩]
@[simp] def c79_r5 : List AOper := [⟨some 17, none, .mov (.t 5)⟩,
  ⟨some 4, none, .mov (.t 17)⟩]
@[simp] def c79_r6 : List AOper := [⟨some 18, none, .bin .add (.t 8) (.int .i64 1)⟩,
  ⟨some 8, none, .mov (.t 18)⟩]
def c79_b0 : AC := .seq (.ops c79_r2 false) (.seq (.cond (.t 9) (.skip) (.exit 0)) (.seq (.block 1 (.seq (.ops c79_r3 false) (.seq (.ops c79_r4 false) (.cond (.t 16) (.seq (.ops c79_r5 false) (.ret)) (.skip))))) (.ops c79_r6 false)))
@[simp] def c79_r7 : List AOper := [⟨some 4, none, .mov (.int .i64 (-1))⟩]
@[simp] def c79 : AFn := ⟨19, [.tmp 4], .seq (.ops c79_r0 false) (.seq (.seq (.ops c79_r1 false) (.block 0 (.loop c79_b0 [0, 1, 7, 8] []))) (.seq (.ops c79_r7 false) (.ret)))⟩

/-- slices.Index[[]string,string] -/
@[simp] def c80_r0 : List AOper := [⟨some 4, none, .mov (.int .i64 0)⟩]
@[simp] def c80_r1 : List AOper := [⟨some 6, none, .mov (.t 0)⟩,
  ⟨some 7, none, .len (.t 6)⟩,
  ⟨some 8, none, .mov (.int .i64 0)⟩]
@[simp] def c80_r2 : List AOper := [⟨some 9, none, .bin .lss (.t 8) (.t 7)⟩]
@[simp] def c80_r3 : List AOper := [⟨some 10, none, .mov (.t 8)⟩,
  ⟨some 5, none, .mov (.t 10)⟩]
@[simp] def c80_r4 : List AOper := [⟨some 11, none, .mov (.t 1)⟩,
  ⟨some 12, none, .mov (.t 0)⟩,
  ⟨some 13, none, .mov (.t 5)⟩,
  ⟨some 14, none, .ixi 1 (.t 12) (.t 13)⟩,
  ⟨some 15, none, .ldi 1 false (.t 14)⟩,
  ⟨some 16, none, .bin .eql (.t 11) (.t 15)⟩]
@[simp] def c80_r5 : List AOper := [⟨some 17, none, .mov (.t 5)⟩,
  ⟨some 4, none, .mov (.t 17)⟩]
@[simp] def c80_r6 : List AOper := [⟨some 18, none, .bin .add (.t 8) (.int .i64 1)⟩,
  ⟨some 8, none, .mov (.t 18)⟩]
def c80_b0 : AC := .seq (.ops c80_r2 false) (.seq (.cond (.t 9) (.skip) (.exit 0)) (.seq (.block 1 (.seq (.ops c80_r3 false) (.seq (.ops c80_r4 false) (.cond (.t 16) (.seq (.ops c80_r5 false) (.ret)) (.skip))))) (.ops c80_r6 false)))
@[simp] def c80_r7 : List AOper := [⟨some 4, none, .mov (.int .i64 (-1))⟩]
@[simp] def c80 : AFn := ⟨19, [.tmp 4], .seq (.ops c80_r0 false) (.seq (.seq (.ops c80_r1 false) (.block 0 (.loop c80_b0 [0, 1, 7, 8] []))) (.seq (.ops c80_r7 false) (.ret)))⟩

/-- internal stringslite.HasSuffix -/
@[simp] def c81_r0 : List AOper := [⟨some 4, none, .mov (.bool false)⟩]
@[simp] def c81_r1 : List AOper := [⟨some 5, none, .mov (.t 0)⟩,
  ⟨some 6, none, .lst (.t 5)⟩,
  ⟨some 7, none, .mov (.t 1)⟩,
  ⟨some 8, none, .lst (.t 7)⟩,
  ⟨some 9, none, .bin .geq (.t 6) (.t 8)⟩,
  ⟨some 10, none, .mov (.t 9)⟩,
  ⟨some 11, (some (10, true)), .mov (.t 0)⟩,
  ⟨some 12, (some (10, true)), .mov (.t 0)⟩,
  ⟨some 13, (some (10, true)), .lst (.t 12)⟩,
  ⟨some 14, (some (10, true)), .mov (.t 1)⟩,
  ⟨some 15, (some (10, true)), .lst (.t 14)⟩,
  ⟨some 16, (some (10, true)), .bin .sub (.t 13) (.t 15)⟩,
  ⟨some 17, (some (10, true)), .sls (.t 11) (some (.t 16)) none⟩,
  ⟨some 18, (some (10, true)), .mov (.t 1)⟩,
  ⟨some 19, (some (10, true)), .bin .eql (.t 17) (.t 18)⟩,
  ⟨some 20, none, .pick (.t 10) (.t 19) (.bool false)⟩,
  ⟨some 4, none, .mov (.t 20)⟩]
@[simp] def c81 : AFn := ⟨21, [.tmp 4], .seq (.ops c81_r0 false) (.seq (.ops c81_r1 false) (.ret))⟩

theorem c3_ok : FnOk Tryd.prog 3 c3 := ⟨_, Tryd.func3, by kernel_rfl⟩
theorem c4_ok : FnOk Tryd.prog 4 c4 := ⟨_, Tryd.func4, by kernel_rfl⟩
theorem c5_ok : FnOk Tryd.prog 5 c5 := ⟨_, Tryd.func5, by kernel_rfl⟩
theorem c6_ok : FnOk Tryd.prog 6 c6 := ⟨_, Tryd.func6, by kernel_rfl⟩
theorem c7_ok : FnOk Tryd.prog 7 c7 := ⟨_, Tryd.func7, by kernel_rfl⟩
theorem c8_ok : FnOk Tryd.prog 8 c8 := ⟨_, Tryd.func8, by kernel_rfl⟩
theorem c9_ok : FnOk Tryd.prog 9 c9 := ⟨_, Tryd.func9, by kernel_rfl⟩
theorem c10_ok : FnOk Tryd.prog 10 c10 := ⟨_, Tryd.func10, by kernel_rfl⟩
theorem c11_ok : FnOk Tryd.prog 11 c11 := ⟨_, Tryd.func11, by kernel_rfl⟩
theorem c12_ok : FnOk Tryd.prog 12 c12 := ⟨_, Tryd.func12, by kernel_rfl⟩
theorem c13_ok : FnOk Tryd.prog 13 c13 := ⟨_, Tryd.func13, by kernel_rfl⟩
theorem c14_ok : FnOk Tryd.prog 14 c14 := ⟨_, Tryd.func14, by kernel_rfl⟩
theorem c15_ok : FnOk Tryd.prog 15 c15 := ⟨_, Tryd.func15, by kernel_rfl⟩
theorem c16_ok : FnOk Tryd.prog 16 c16 := ⟨_, Tryd.func16, by kernel_rfl⟩
theorem c17_ok : FnOk Tryd.prog 17 c17 := ⟨_, Tryd.func17, by kernel_rfl⟩
theorem c18_ok : FnOk Tryd.prog 18 c18 := ⟨_, Tryd.func18, by kernel_rfl⟩
theorem c19_ok : FnOk Tryd.prog 19 c19 := ⟨_, Tryd.func19, by kernel_rfl⟩
theorem c20_ok : FnOk Tryd.prog 20 c20 := ⟨_, Tryd.func20, by kernel_rfl⟩
theorem c21_ok : FnOk Tryd.prog 21 c21 := ⟨_, Tryd.func21, by kernel_rfl⟩
theorem c22_ok : FnOk Tryd.prog 22 c22 := ⟨_, Tryd.func22, by kernel_rfl⟩
theorem c23_ok : FnOk Tryd.prog 23 c23 := ⟨_, Tryd.func23, by kernel_rfl⟩
theorem c24_ok : FnOk Tryd.prog 24 c24 := ⟨_, Tryd.func24, by kernel_rfl⟩
theorem c25_ok : FnOk Tryd.prog 25 c25 := ⟨_, Tryd.func25, by kernel_rfl⟩
theorem c26_ok : FnOk Tryd.prog 26 c26 := ⟨_, Tryd.func26, by kernel_rfl⟩
theorem c27_ok : FnOk Tryd.prog 27 c27 := ⟨_, Tryd.func27, by kernel_rfl⟩
theorem c28_ok : FnOk Tryd.prog 28 c28 := ⟨_, Tryd.func28, by kernel_rfl⟩
theorem c29_ok : FnOk Tryd.prog 29 c29 := ⟨_, Tryd.func29, by kernel_rfl⟩
theorem c30_ok : FnOk Tryd.prog 30 c30 := ⟨_, Tryd.func30, by kernel_rfl⟩
theorem c31_ok : FnOk Tryd.prog 31 c31 := ⟨_, Tryd.func31, by kernel_rfl⟩
theorem c32_ok : FnOk Tryd.prog 32 c32 := ⟨_, Tryd.func32, by kernel_rfl⟩
theorem c33_ok : FnOk Tryd.prog 33 c33 := ⟨_, Tryd.func33, by kernel_rfl⟩
theorem c34_ok : FnOk Tryd.prog 34 c34 := ⟨_, Tryd.func34, by kernel_rfl⟩
theorem c35_ok : FnOk Tryd.prog 35 c35 := ⟨_, Tryd.func35, by kernel_rfl⟩
theorem c36_ok : FnOk Tryd.prog 36 c36 := ⟨_, Tryd.func36, by kernel_rfl⟩
theorem c37_ok : FnOk Tryd.prog 37 c37 := ⟨_, Tryd.func37, by kernel_rfl⟩
theorem c38_ok : FnOk Tryd.prog 38 c38 := ⟨_, Tryd.func38, by kernel_rfl⟩
theorem c39_ok : FnOk Tryd.prog 39 c39 := ⟨_, Tryd.func39, by kernel_rfl⟩
theorem c40_ok : FnOk Tryd.prog 40 c40 := ⟨_, Tryd.func40, by kernel_rfl⟩
theorem c41_ok : FnOk Tryd.prog 41 c41 := ⟨_, Tryd.func41, by kernel_rfl⟩
theorem c42_ok : FnOk Tryd.prog 42 c42 := ⟨_, Tryd.func42, by kernel_rfl⟩
theorem c43_ok : FnOk Tryd.prog 43 c43 := ⟨_, Tryd.func43, by kernel_rfl⟩
theorem c44_ok : FnOk Tryd.prog 44 c44 := ⟨_, Tryd.func44, by kernel_rfl⟩
theorem c45_ok : FnOk Tryd.prog 45 c45 := ⟨_, Tryd.func45, by kernel_rfl⟩
theorem c46_ok : FnOk Tryd.prog 46 c46 := ⟨_, Tryd.func46, by kernel_rfl⟩
theorem c47_ok : FnOk Tryd.prog 47 c47 := ⟨_, Tryd.func47, by kernel_rfl⟩
theorem c48_ok : FnOk Tryd.prog 48 c48 := ⟨_, Tryd.func48, by kernel_rfl⟩
theorem c49_ok : FnOk Tryd.prog 49 c49 := ⟨_, Tryd.func49, by kernel_rfl⟩
theorem c50_ok : FnOk Tryd.prog 50 c50 := ⟨_, Tryd.func50, by kernel_rfl⟩
theorem c51_ok : FnOk Tryd.prog 51 c51 := ⟨_, Tryd.func51, by kernel_rfl⟩
theorem c52_ok : FnOk Tryd.prog 52 c52 := ⟨_, Tryd.func52, by kernel_rfl⟩
theorem c53_ok : FnOk Tryd.prog 53 c53 := ⟨_, Tryd.func53, by kernel_rfl⟩
theorem c54_ok : FnOk Tryd.prog 54 c54 := ⟨_, Tryd.func54, by kernel_rfl⟩
theorem c55_ok : FnOk Tryd.prog 55 c55 := ⟨_, Tryd.func55, by kernel_rfl⟩
theorem c56_ok : FnOk Tryd.prog 56 c56 := ⟨_, Tryd.func56, by kernel_rfl⟩
theorem c57_ok : FnOk Tryd.prog 57 c57 := ⟨_, Tryd.func57, by kernel_rfl⟩
theorem c58_ok : FnOk Tryd.prog 58 c58 := ⟨_, Tryd.func58, by kernel_rfl⟩
theorem c59_ok : FnOk Tryd.prog 59 c59 := ⟨_, Tryd.func59, by kernel_rfl⟩
theorem c60_ok : FnOk Tryd.prog 60 c60 := ⟨_, Tryd.func60, by kernel_rfl⟩
theorem c61_ok : FnOk Tryd.prog 61 c61 := ⟨_, Tryd.func61, by kernel_rfl⟩
theorem c62_ok : FnOk Tryd.prog 62 c62 := ⟨_, Tryd.func62, by kernel_rfl⟩
theorem c63_ok : FnOk Tryd.prog 63 c63 := ⟨_, Tryd.func63, by kernel_rfl⟩
theorem c64_ok : FnOk Tryd.prog 64 c64 := ⟨_, Tryd.func64, by kernel_rfl⟩
theorem c65_ok : FnOk Tryd.prog 65 c65 := ⟨_, Tryd.func65, by kernel_rfl⟩
theorem c66_ok : FnOk Tryd.prog 66 c66 := ⟨_, Tryd.func66, by kernel_rfl⟩
theorem c67_ok : FnOk Tryd.prog 67 c67 := ⟨_, Tryd.func67, by kernel_rfl⟩
theorem c69_ok : FnOk Tryd.prog 69 c69 := ⟨_, Tryd.func69, by kernel_rfl⟩
theorem c70_ok : FnOk Tryd.prog 70 c70 := ⟨_, Tryd.func70, by kernel_rfl⟩
theorem c71_ok : FnOk Tryd.prog 71 c71 := ⟨_, Tryd.func71, by kernel_rfl⟩
theorem c72_ok : FnOk Tryd.prog 72 c72 := ⟨_, Tryd.func72, by kernel_rfl⟩
theorem c73_ok : FnOk Tryd.prog 73 c73 := ⟨_, Tryd.func73, by kernel_rfl⟩
theorem c74_ok : FnOk Tryd.prog 74 c74 := ⟨_, Tryd.func74, by kernel_rfl⟩
theorem c75_ok : FnOk Tryd.prog 75 c75 := ⟨_, Tryd.func75, by kernel_rfl⟩
theorem c76_ok : FnOk Tryd.prog 76 c76 := ⟨_, Tryd.func76, by kernel_rfl⟩
theorem c77_ok : FnOk Tryd.prog 77 c77 := ⟨_, Tryd.func77, by kernel_rfl⟩
theorem c79_ok : FnOk Tryd.prog 79 c79 := ⟨_, Tryd.func79, by kernel_rfl⟩
theorem c80_ok : FnOk Tryd.prog 80 c80 := ⟨_, Tryd.func80, by kernel_rfl⟩
theorem c81_ok : FnOk Tryd.prog 81 c81 := ⟨_, Tryd.func81, by kernel_rfl⟩

end Go.Bk
