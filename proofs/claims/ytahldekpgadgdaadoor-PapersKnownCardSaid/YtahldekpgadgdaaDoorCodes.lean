/- The codes of the functions, as a program of ours has printed them, and that they are the codes of the functions of the program. -/
import Derived.Test.YtahldekpgadgdaaDoorEvThree
import Derived.Test.YtahldekpgadgdaaDoorProg
import Derived.KernelRfl
set_option linter.all false

namespace Go.Pp
open Go Go.Ev Go.Proofs Go.RowKit

/-- shackle shacklelaw13.PapersWritten -/
@[simp] def c3_r0 : List AOper := [⟨some 1, none, .boxi (.t 0)⟩,
  ⟨some 2, none, .mov (.bool false)⟩]
@[simp] def c3_r1 : List AOper := [⟨some 9, none, .ldi 2 true (.t 1)⟩,
  ⟨some 10, none, .call 12 [.t 9] []⟩,
  ⟨some 11, none, .not (.t 10)⟩]
@[simp] def c3_r2 : List AOper := [⟨some 12, none, .call 13 [] []⟩,
  ⟨some 2, none, .mov (.t 12)⟩]
@[simp] def c3_r3 : List AOper := [⟨some 14, none, .ldi 2 true (.t 1)⟩,
  ⟨some 15, none, .call 14 [.t 14] []⟩,
  ⟨some 13, none, .mov (.t 15)⟩,
  ⟨some 16, none, .ext (.t 13) 0⟩,
  ⟨some 17, none, .ext (.t 13) 1⟩,
  ⟨some 3, none, .mov (.t 16)⟩,
  ⟨some 4, none, .mov (.t 17)⟩]
@[simp] def c3_r4 : List AOper := [⟨some 18, none, .mov (.t 4)⟩,
  ⟨some 19, none, .not (.t 18)⟩]
@[simp] def c3_r5 : List AOper := [⟨some 2, none, .mov (.bool false)⟩]
@[simp] def c3_r6 : List AOper := [⟨some 5, none, .mov (.int .i64 0)⟩]
@[simp] def c3_r7 : List AOper := [⟨some 20, none, .mov (.t 5)⟩,
  ⟨some 21, none, .mov (.t 3)⟩,
  ⟨some 22, none, .len (.t 21)⟩,
  ⟨some 23, none, .bin .lss (.t 20) (.t 22)⟩]
@[simp] def c3_r9 : List AOper := [⟨some 26, none, .mov (.t 3)⟩,
  ⟨some 27, none, .mov (.t 5)⟩,
  ⟨some 28, none, .ixi 1 (.t 26) (.t 27)⟩,
  ⟨some 29, none, .ldi 1 false (.t 28)⟩,
  ⟨some 30, none, .call 15 [.t 29] []⟩,
  ⟨some 31, none, .fld 0 (.t 1)⟩,
  ⟨some 32, none, .ldi 1 false (.t 31)⟩,
  ⟨some 33, none, .bin .neq (.t 30) (.t 32)⟩]
@[simp] def c3_r10 : List AOper := [⟨some 2, none, .mov (.bool false)⟩]
@[simp] def c3_r11 : List AOper := [⟨some 6, none, .mov (.int .i64 0)⟩]
@[simp] def c3_r12 : List AOper := [⟨some 34, none, .mov (.t 6)⟩,
  ⟨some 35, none, .mov (.t 5)⟩,
  ⟨some 36, none, .bin .lss (.t 34) (.t 35)⟩]
@[simp] def c3_r14 : List AOper := [⟨some 39, none, .mov (.t 3)⟩,
  ⟨some 40, none, .mov (.t 6)⟩,
  ⟨some 41, none, .ixi 1 (.t 39) (.t 40)⟩,
  ⟨some 42, none, .ldi 1 false (.t 41)⟩,
  ⟨some 43, none, .mov (.t 3)⟩,
  ⟨some 44, none, .mov (.t 5)⟩,
  ⟨some 45, none, .ixi 1 (.t 43) (.t 44)⟩,
  ⟨some 46, none, .ldi 1 false (.t 45)⟩,
  ⟨some 47, none, .bin .eql (.t 42) (.t 46)⟩]
@[simp] def c3_r15 : List AOper := [⟨some 2, none, .mov (.bool false)⟩]
@[simp] def c3_r13 : List AOper := [⟨some 37, none, .mov (.t 6)⟩,
  ⟨some 38, none, .bin .add (.t 37) (.int .i64 1)⟩,
  ⟨some 6, none, .mov (.t 38)⟩]
def c3_b0 : AC := .seq (.seq (.ops c3_r12 false) (.cond (.t 36) (.skip) (.exit 2))) (.seq (.block 3 (.seq (.ops c3_r14 true) (.cond (.t 47) (.seq (.ops c3_r15 false) (.ret)) (.skip)))) (.ops c3_r13 false))
@[simp] def c3_r8 : List AOper := [⟨some 24, none, .mov (.t 5)⟩,
  ⟨some 25, none, .bin .add (.t 24) (.int .i64 1)⟩,
  ⟨some 5, none, .mov (.t 25)⟩]
def c3_b1 : AC := .seq (.seq (.ops c3_r7 false) (.cond (.t 23) (.skip) (.exit 0))) (.seq (.block 1 (.seq (.seq (.ops c3_r9 true) (.cond (.t 33) (.seq (.ops c3_r10 false) (.ret)) (.skip))) (.seq (.ops c3_r11 false) (.block 2 (.loop c3_b0 [1, 3, 5, 6] []))))) (.ops c3_r8 false))
@[simp] def c3_r16 : List AOper := [⟨some 49, none, .ldi 2 true (.t 1)⟩,
  ⟨some 50, none, .mov (.t 3)⟩,
  ⟨some 51, none, .len (.t 50)⟩,
  ⟨some 52, none, .call 16 [.t 49, .t 51] []⟩,
  ⟨some 48, none, .mov (.t 52)⟩,
  ⟨some 53, none, .ext (.t 48) 0⟩,
  ⟨some 54, none, .ext (.t 48) 1⟩,
  ⟨some 7, none, .mov (.t 53)⟩,
  ⟨some 8, none, .mov (.t 54)⟩]
@[simp] def c3_r17 : List AOper := [⟨some 55, none, .mov (.t 8)⟩,
  ⟨some 56, none, .bin .eql (.t 55) (.int .i64 1)⟩,
  ⟨some 57, none, .mov (.t 56)⟩,
  ⟨some 58, (some (57, true)), .call 13 [] []⟩,
  ⟨some 59, none, .pick (.t 57) (.t 58) (.bool false)⟩,
  ⟨some 2, none, .mov (.t 59)⟩]
@[simp] def c3 : AFn := ⟨60, [.tmp 2], .seq (.ops c3_r0 false) (.seq (.seq (.ops c3_r1 false) (.cond (.t 11) (.seq (.ops c3_r2 false) (.ret)) (.skip))) (.seq (.ops c3_r3 false) (.seq (.seq (.ops c3_r4 false) (.cond (.t 19) (.seq (.ops c3_r5 false) (.ret)) (.skip))) (.seq (.seq (.ops c3_r6 false) (.block 0 (.loop c3_b1 [1, 3, 5] []))) (.seq (.ops c3_r16 false) (.seq (.ops c3_r17 false) (.ret)))))))⟩

/-- shackle shacklelaw13.PapersJoined -/
@[simp] def c4_r0 : List AOper := [⟨some 2, none, .boxi (.t 0)⟩,
  ⟨some 3, none, .boxi (.t 1)⟩,
  ⟨some 4, none, .mov (.bool false)⟩]
@[simp] def c4_r1 : List AOper := [⟨some 17, none, .fld 1 (.t 3)⟩,
  ⟨some 18, none, .ldi 1 false (.t 17)⟩,
  ⟨some 19, none, .lst (.t 18)⟩,
  ⟨some 20, none, .bin .gtr (.t 19) (.int .i64 100)⟩,
  ⟨some 21, none, .mov (.t 20)⟩,
  ⟨some 22, (some (21, false)), .fld 0 (.t 3)⟩,
  ⟨some 23, (some (21, false)), .ldi 1 false (.t 22)⟩,
  ⟨some 24, (some (21, false)), .bin .neq (.t 23) (.str [97, 110, 100])⟩,
  ⟨some 25, (some (21, false)), .mov (.t 24)⟩,
  ⟨some 26, (some (25, true)), .fld 0 (.t 3)⟩,
  ⟨some 27, (some (25, true)), .ldi 1 false (.t 26)⟩,
  ⟨some 28, (some (25, true)), .bin .neq (.t 27) (.str [111, 114])⟩,
  ⟨some 29, (some (21, false)), .pick (.t 25) (.t 28) (.bool false)⟩,
  ⟨some 30, (some (21, false)), .mov (.t 29)⟩,
  ⟨some 31, (some (30, true)), .fld 0 (.t 3)⟩,
  ⟨some 32, (some (30, true)), .ldi 1 false (.t 31)⟩,
  ⟨some 33, (some (30, true)), .bin .neq (.t 32) (.str [105, 102])⟩,
  ⟨some 34, (some (21, false)), .pick (.t 30) (.t 33) (.bool false)⟩,
  ⟨some 35, none, .pick (.t 21) (.bool true) (.t 34)⟩]
@[simp] def c4_r2 : List AOper := [⟨some 36, none, .call 13 [] []⟩,
  ⟨some 4, none, .mov (.t 36)⟩]
@[simp] def c4_r3 : List AOper := [⟨some 37, none, .ldi 2 true (.t 2)⟩,
  ⟨some 38, none, .call 17 [.t 37] []⟩,
  ⟨some 39, none, .ldi 2 true (.t 2)⟩,
  ⟨some 40, none, .call 17 [.t 39] []⟩,
  ⟨some 5, none, .alo 5 [.str [], .nil 1]⟩,
  ⟨some 6, none, .alo 6 [.str [], .nil 1]⟩,
  ⟨none, none, .sto 5 2 (.t 5) (.t 38)⟩,
  ⟨none, none, .sto 6 2 (.t 6) (.t 40)⟩]
@[simp] def c4_r4 : List AOper := [⟨some 41, none, .fld 1 (.t 3)⟩,
  ⟨some 42, none, .ldi 1 false (.t 41)⟩,
  ⟨some 43, none, .fld 0 (.t 2)⟩,
  ⟨some 44, none, .ldi 1 false (.t 43)⟩,
  ⟨some 45, none, .bin .add (.t 44) (.str [32])⟩,
  ⟨some 46, none, .fld 0 (.t 3)⟩,
  ⟨some 47, none, .ldi 1 false (.t 46)⟩,
  ⟨some 48, none, .bin .add (.t 45) (.t 47)⟩,
  ⟨some 49, none, .bin .add (.t 48) (.str [32])⟩,
  ⟨some 50, none, .fld 1 (.t 3)⟩,
  ⟨some 51, none, .ldi 1 false (.t 50)⟩,
  ⟨some 52, none, .bin .add (.t 49) (.t 51)⟩,
  ⟨some 53, none, .fld 0 (.t 6)⟩,
  ⟨none, none, .sto 6 1 (.t 53) (.t 42)⟩,
  ⟨some 54, none, .fld 0 (.t 5)⟩,
  ⟨none, none, .sto 5 1 (.t 54) (.t 52)⟩]
@[simp] def c4_r5 : List AOper := [⟨some 55, none, .ldi 2 true (.t 2)⟩,
  ⟨some 56, none, .call 12 [.t 55] []⟩,
  ⟨some 57, none, .not (.t 56)⟩,
  ⟨some 58, none, .mov (.t 57)⟩,
  ⟨some 59, (some (58, false)), .ldo 6 2 true (.t 6)⟩,
  ⟨some 60, (some (58, false)), .call 12 [.t 59] []⟩,
  ⟨some 61, (some (58, false)), .not (.t 60)⟩,
  ⟨some 62, none, .pick (.t 58) (.bool true) (.t 61)⟩,
  ⟨some 63, none, .mov (.t 62)⟩,
  ⟨some 64, (some (63, false)), .ldo 5 2 true (.t 5)⟩,
  ⟨some 65, (some (63, false)), .call 12 [.t 64] []⟩,
  ⟨some 66, (some (63, false)), .not (.t 65)⟩,
  ⟨some 67, none, .pick (.t 63) (.bool true) (.t 66)⟩]
@[simp] def c4_r6 : List AOper := [⟨some 68, none, .call 13 [] []⟩,
  ⟨some 4, none, .mov (.t 68)⟩]
@[simp] def c4_r7 : List AOper := [⟨some 70, none, .ldi 2 true (.t 2)⟩,
  ⟨some 71, none, .call 14 [.t 70] []⟩,
  ⟨some 69, none, .mov (.t 71)⟩,
  ⟨some 72, none, .ext (.t 69) 0⟩,
  ⟨some 73, none, .ext (.t 69) 1⟩,
  ⟨some 7, none, .mov (.t 72)⟩,
  ⟨some 8, none, .mov (.t 73)⟩]
@[simp] def c4_r8 : List AOper := [⟨some 75, none, .ldo 6 2 true (.t 6)⟩,
  ⟨some 76, none, .call 14 [.t 75] []⟩,
  ⟨some 74, none, .mov (.t 76)⟩,
  ⟨some 77, none, .ext (.t 74) 0⟩,
  ⟨some 78, none, .ext (.t 74) 1⟩,
  ⟨some 9, none, .mov (.t 77)⟩,
  ⟨some 10, none, .mov (.t 78)⟩]
@[simp] def c4_r9 : List AOper := [⟨some 80, none, .ldo 5 2 true (.t 5)⟩,
  ⟨some 81, none, .call 14 [.t 80] []⟩,
  ⟨some 79, none, .mov (.t 81)⟩,
  ⟨some 82, none, .ext (.t 79) 0⟩,
  ⟨some 83, none, .ext (.t 79) 1⟩,
  ⟨some 11, none, .mov (.t 82)⟩,
  ⟨some 12, none, .mov (.t 83)⟩]
@[simp] def c4_r10 : List AOper := [⟨some 84, none, .mov (.t 8)⟩,
  ⟨some 85, none, .not (.t 84)⟩,
  ⟨some 86, none, .mov (.t 85)⟩,
  ⟨some 87, (some (86, false)), .mov (.t 10)⟩,
  ⟨some 88, (some (86, false)), .not (.t 87)⟩,
  ⟨some 89, none, .pick (.t 86) (.bool true) (.t 88)⟩,
  ⟨some 90, none, .mov (.t 89)⟩,
  ⟨some 91, (some (90, false)), .mov (.t 12)⟩,
  ⟨some 92, (some (90, false)), .not (.t 91)⟩,
  ⟨some 93, none, .pick (.t 90) (.bool true) (.t 92)⟩]
@[simp] def c4_r11 : List AOper := [⟨some 4, none, .mov (.bool false)⟩]
@[simp] def c4_r12 : List AOper := [⟨some 13, none, .mov (.int .i64 0)⟩]
@[simp] def c4_r13 : List AOper := [⟨some 14, none, .mov (.int .i64 0)⟩]
@[simp] def c4_r14 : List AOper := [⟨some 94, none, .mov (.t 14)⟩,
  ⟨some 95, none, .mov (.t 7)⟩,
  ⟨some 96, none, .len (.t 95)⟩,
  ⟨some 97, none, .bin .lss (.t 94) (.t 96)⟩]
@[simp] def c4_r16 : List AOper := [⟨some 15, none, .mov (.int .i64 0)⟩]
@[simp] def c4_r17 : List AOper := [⟨some 100, none, .mov (.t 15)⟩,
  ⟨some 101, none, .mov (.t 9)⟩,
  ⟨some 102, none, .len (.t 101)⟩,
  ⟨some 103, none, .bin .lss (.t 100) (.t 102)⟩]
@[simp] def c4_r19 : List AOper := [⟨some 16, none, .mov (.int .i64 0)⟩]
@[simp] def c4_r20 : List AOper := [⟨some 106, none, .mov (.t 16)⟩,
  ⟨some 107, none, .mov (.t 11)⟩,
  ⟨some 108, none, .len (.t 107)⟩,
  ⟨some 109, none, .bin .lss (.t 106) (.t 108)⟩]
@[simp] def c4_r22 : List AOper := [⟨some 112, none, .mov (.t 11)⟩,
  ⟨some 113, none, .mov (.t 16)⟩,
  ⟨some 114, none, .ixi 1 (.t 112) (.t 113)⟩,
  ⟨some 115, none, .ldi 1 false (.t 114)⟩,
  ⟨some 116, none, .mov (.t 7)⟩,
  ⟨some 117, none, .mov (.t 14)⟩,
  ⟨some 118, none, .ixi 1 (.t 116) (.t 117)⟩,
  ⟨some 119, none, .ldi 1 false (.t 118)⟩,
  ⟨some 120, none, .bin .add (.str [40]) (.t 119)⟩,
  ⟨some 121, none, .bin .add (.t 120) (.str [32])⟩,
  ⟨some 122, none, .fld 0 (.t 3)⟩,
  ⟨some 123, none, .ldi 1 false (.t 122)⟩,
  ⟨some 124, none, .bin .add (.t 121) (.t 123)⟩,
  ⟨some 125, none, .bin .add (.t 124) (.str [32])⟩,
  ⟨some 126, none, .mov (.t 9)⟩,
  ⟨some 127, none, .mov (.t 15)⟩,
  ⟨some 128, none, .ixi 1 (.t 126) (.t 127)⟩,
  ⟨some 129, none, .ldi 1 false (.t 128)⟩,
  ⟨some 130, none, .bin .add (.t 125) (.t 129)⟩,
  ⟨some 131, none, .bin .add (.t 130) (.str [41])⟩,
  ⟨some 132, none, .bin .eql (.t 115) (.t 131)⟩]
@[simp] def c4_r23 : List AOper := [⟨some 133, none, .mov (.t 13)⟩,
  ⟨some 134, none, .bin .add (.t 133) (.int .i64 1)⟩,
  ⟨some 13, none, .mov (.t 134)⟩]
@[simp] def c4_r21 : List AOper := [⟨some 110, none, .mov (.t 16)⟩,
  ⟨some 111, none, .bin .add (.t 110) (.int .i64 1)⟩,
  ⟨some 16, none, .mov (.t 111)⟩]
def c4_b0 : AC := .seq (.seq (.ops c4_r20 false) (.cond (.t 109) (.skip) (.exit 4))) (.seq (.block 5 (.seq (.ops c4_r22 true) (.cond (.t 132) (.ops c4_r23 false) (.skip)))) (.ops c4_r21 false))
@[simp] def c4_r18 : List AOper := [⟨some 104, none, .mov (.t 15)⟩,
  ⟨some 105, none, .bin .add (.t 104) (.int .i64 1)⟩,
  ⟨some 15, none, .mov (.t 105)⟩]
def c4_b1 : AC := .seq (.seq (.ops c4_r17 false) (.cond (.t 103) (.skip) (.exit 2))) (.seq (.block 3 (.seq (.ops c4_r19 false) (.block 4 (.loop c4_b0 [3, 7, 9, 11, 13, 14, 15, 16] [])))) (.ops c4_r18 false))
@[simp] def c4_r15 : List AOper := [⟨some 98, none, .mov (.t 14)⟩,
  ⟨some 99, none, .bin .add (.t 98) (.int .i64 1)⟩,
  ⟨some 14, none, .mov (.t 99)⟩]
def c4_b2 : AC := .seq (.seq (.ops c4_r14 false) (.cond (.t 97) (.skip) (.exit 0))) (.seq (.block 1 (.seq (.ops c4_r16 false) (.block 2 (.loop c4_b1 [3, 7, 9, 11, 13, 14, 15] [])))) (.ops c4_r15 false))
@[simp] def c4_r24 : List AOper := [⟨some 135, none, .mov (.t 13)⟩,
  ⟨some 136, none, .mov (.t 7)⟩,
  ⟨some 137, none, .len (.t 136)⟩,
  ⟨some 138, none, .mov (.t 9)⟩,
  ⟨some 139, none, .len (.t 138)⟩,
  ⟨some 140, none, .bin .mul (.t 137) (.t 139)⟩,
  ⟨some 141, none, .bin .eql (.t 135) (.t 140)⟩,
  ⟨some 142, none, .mov (.t 141)⟩,
  ⟨some 143, (some (142, true)), .call 13 [] []⟩,
  ⟨some 144, none, .pick (.t 142) (.t 143) (.bool false)⟩,
  ⟨some 4, none, .mov (.t 144)⟩]
@[simp] def c4 : AFn := ⟨145, [.tmp 4], .seq (.ops c4_r0 false) (.seq (.seq (.ops c4_r1 false) (.cond (.t 35) (.seq (.ops c4_r2 false) (.ret)) (.skip))) (.seq (.ops c4_r3 true) (.seq (.ops c4_r4 true) (.seq (.seq (.ops c4_r5 false) (.cond (.t 67) (.seq (.ops c4_r6 false) (.ret)) (.skip))) (.seq (.ops c4_r7 false) (.seq (.ops c4_r8 false) (.seq (.ops c4_r9 false) (.seq (.seq (.ops c4_r10 false) (.cond (.t 93) (.seq (.ops c4_r11 false) (.ret)) (.skip))) (.seq (.ops c4_r12 false) (.seq (.seq (.ops c4_r13 false) (.block 0 (.loop c4_b2 [3, 7, 9, 11, 13, 14] []))) (.seq (.ops c4_r24 false) (.ret))))))))))))⟩

/-- shackle shacklelaw13.PapersReadings -/
@[simp] def c5_r0 : List AOper := [⟨some 2, none, .boxi (.t 0)⟩,
  ⟨some 4, none, .mov (.bool false)⟩]
@[simp] def c5_r1 : List AOper := [⟨some 15, none, .fld 1 (.t 2)⟩,
  ⟨some 16, none, .ldi 1 false (.t 15)⟩,
  ⟨some 17, none, .len (.t 16)⟩,
  ⟨some 18, none, .bin .gtr (.t 17) (.int .i64 40)⟩,
  ⟨some 19, none, .mov (.t 18)⟩,
  ⟨some 20, (some (19, false)), .fld 0 (.t 2)⟩,
  ⟨some 21, (some (19, false)), .ldi 1 false (.t 20)⟩,
  ⟨some 22, (some (19, false)), .lst (.t 21)⟩,
  ⟨some 23, (some (19, false)), .bin .gtr (.t 22) (.int .i64 1000)⟩,
  ⟨some 24, none, .pick (.t 19) (.bool true) (.t 23)⟩]
@[simp] def c5_r2 : List AOper := [⟨some 25, none, .call 13 [] []⟩,
  ⟨some 4, none, .mov (.t 25)⟩]
@[simp] def c5_r3 : List AOper := [⟨some 26, none, .fld 0 (.t 2)⟩,
  ⟨some 27, none, .ldi 1 false (.t 26)⟩,
  ⟨some 28, none, .call 18 [.t 27] []⟩,
  ⟨some 29, none, .len (.t 28)⟩,
  ⟨some 5, none, .mov (.t 29)⟩]
@[simp] def c5_r4 : List AOper := [⟨some 30, none, .mov (.t 5)⟩,
  ⟨some 31, none, .bin .gtr (.t 30) (.int .i64 9)⟩,
  ⟨some 32, none, .mov (.t 31)⟩,
  ⟨some 33, (some (32, true)), .mov (.t 5)⟩,
  ⟨some 34, (some (32, true)), .bin .leq (.t 33) (.int .i64 11)⟩,
  ⟨some 35, none, .pick (.t 32) (.t 34) (.bool false)⟩]
@[simp] def c5_r5 : List AOper := [⟨some 36, none, .call 13 [] []⟩,
  ⟨some 4, none, .mov (.t 36)⟩]
@[simp] def c5_r6 : List AOper := [⟨some 37, none, .ldi 2 true (.t 2)⟩,
  ⟨some 38, none, .call 17 [.t 37] []⟩,
  ⟨some 6, none, .alo 6 [.str [], .nil 1]⟩,
  ⟨none, none, .sto 6 2 (.t 6) (.t 38)⟩]
@[simp] def c5_r7 : List AOper := [⟨some 39, none, .ldo 6 2 true (.t 6)⟩,
  ⟨some 40, none, .call 19 [.t 39] []⟩,
  ⟨some 41, none, .ldi 2 true (.t 2)⟩,
  ⟨some 42, none, .call 20 [.t 41] []⟩,
  ⟨some 43, none, .bin .neq (.t 40) (.t 42)⟩]
@[simp] def c5_r8 : List AOper := [⟨some 4, none, .mov (.bool false)⟩]
@[simp] def c5_r9 : List AOper := [⟨some 45, none, .ldo 6 2 true (.t 6)⟩,
  ⟨some 46, none, .call 21 [.t 45] []⟩,
  ⟨some 44, none, .mov (.t 46)⟩,
  ⟨some 47, none, .ext (.t 44) 0⟩,
  ⟨some 48, none, .ext (.t 44) 1⟩,
  ⟨some 7, none, .mov (.t 47)⟩,
  ⟨some 8, none, .mov (.t 48)⟩]
@[simp] def c5_r10 : List AOper := [⟨some 50, none, .ldi 2 true (.t 2)⟩,
  ⟨some 51, none, .call 22 [.t 50] []⟩,
  ⟨some 49, none, .mov (.t 51)⟩,
  ⟨some 52, none, .ext (.t 49) 0⟩,
  ⟨some 53, none, .ext (.t 49) 1⟩,
  ⟨some 9, none, .mov (.t 52)⟩,
  ⟨some 10, none, .mov (.t 53)⟩]
@[simp] def c5_r11 : List AOper := [⟨some 55, none, .ldo 6 2 true (.t 6)⟩,
  ⟨some 56, none, .mov (.t 1)⟩,
  ⟨some 57, none, .call 16 [.t 55, .t 56] []⟩,
  ⟨some 54, none, .mov (.t 57)⟩,
  ⟨some 58, none, .ext (.t 54) 0⟩,
  ⟨some 59, none, .ext (.t 54) 1⟩,
  ⟨some 11, none, .mov (.t 58)⟩,
  ⟨some 12, none, .mov (.t 59)⟩]
@[simp] def c5_r12 : List AOper := [⟨some 61, none, .ldi 2 true (.t 2)⟩,
  ⟨some 62, none, .mov (.t 1)⟩,
  ⟨some 63, none, .call 23 [.t 61, .t 62] []⟩,
  ⟨some 60, none, .mov (.t 63)⟩,
  ⟨some 64, none, .ext (.t 60) 0⟩,
  ⟨some 65, none, .ext (.t 60) 1⟩,
  ⟨some 13, none, .mov (.t 64)⟩,
  ⟨some 14, none, .mov (.t 65)⟩]
@[simp] def c5_r13 : List AOper := [⟨some 66, none, .mov (.t 7)⟩,
  ⟨some 67, none, .mov (.t 9)⟩,
  ⟨some 68, none, .bin .eql (.t 66) (.t 67)⟩,
  ⟨some 69, none, .mov (.t 68)⟩,
  ⟨some 70, (some (69, true)), .mov (.t 8)⟩,
  ⟨some 71, (some (69, true)), .mov (.t 10)⟩,
  ⟨some 72, (some (69, true)), .bin .eql (.t 70) (.t 71)⟩,
  ⟨some 73, none, .pick (.t 69) (.t 72) (.bool false)⟩,
  ⟨some 74, none, .mov (.t 73)⟩,
  ⟨some 75, (some (74, true)), .mov (.t 11)⟩,
  ⟨some 76, (some (74, true)), .mov (.t 13)⟩,
  ⟨some 77, (some (74, true)), .bin .eql (.t 75) (.t 76)⟩,
  ⟨some 78, none, .pick (.t 74) (.t 77) (.bool false)⟩,
  ⟨some 79, none, .mov (.t 78)⟩,
  ⟨some 80, (some (79, true)), .mov (.t 12)⟩,
  ⟨some 81, (some (79, true)), .mov (.t 14)⟩,
  ⟨some 82, (some (79, true)), .bin .eql (.t 80) (.t 81)⟩,
  ⟨some 83, none, .pick (.t 79) (.t 82) (.bool false)⟩,
  ⟨some 84, none, .mov (.t 83)⟩,
  ⟨some 85, (some (84, true)), .fld 1 (.t 6)⟩,
  ⟨some 86, (some (84, true)), .ldo 6 1 false (.t 85)⟩,
  ⟨some 87, (some (84, true)), .fld 1 (.t 2)⟩,
  ⟨some 88, (some (84, true)), .ldi 1 false (.t 87)⟩,
  ⟨some 89, (some (84, true)), .call 24 [.t 86, .t 88] []⟩,
  ⟨some 90, none, .pick (.t 84) (.t 89) (.bool false)⟩,
  ⟨some 91, none, .mov (.t 90)⟩,
  ⟨some 92, (some (91, true)), .call 13 [] []⟩,
  ⟨some 93, none, .pick (.t 91) (.t 92) (.bool false)⟩,
  ⟨some 4, none, .mov (.t 93)⟩]
@[simp] def c5 : AFn := ⟨94, [.tmp 4], .seq (.ops c5_r0 false) (.seq (.seq (.ops c5_r1 false) (.cond (.t 24) (.seq (.ops c5_r2 false) (.ret)) (.skip))) (.seq (.seq (.ops c5_r3 false) (.seq (.ops c5_r4 false) (.cond (.t 35) (.seq (.ops c5_r5 false) (.ret)) (.skip)))) (.seq (.ops c5_r6 false) (.seq (.seq (.ops c5_r7 true) (.cond (.t 43) (.seq (.ops c5_r8 false) (.ret)) (.skip))) (.seq (.ops c5_r9 false) (.seq (.ops c5_r10 false) (.seq (.ops c5_r11 false) (.seq (.ops c5_r12 false) (.seq (.ops c5_r13 false) (.ret))))))))))⟩

/-- shackle shacklelaw13.PapersNot -/
@[simp] def c6_r0 : List AOper := [⟨some 1, none, .boxi (.t 0)⟩,
  ⟨some 2, none, .mov (.bool false)⟩]
@[simp] def c6_r1 : List AOper := [⟨some 14, none, .ldi 2 true (.t 1)⟩,
  ⟨some 15, none, .call 17 [.t 14] []⟩,
  ⟨some 3, none, .alo 3 [.str [], .nil 1]⟩,
  ⟨none, none, .sto 3 2 (.t 3) (.t 15)⟩]
@[simp] def c6_r2 : List AOper := [⟨some 16, none, .fld 0 (.t 1)⟩,
  ⟨some 17, none, .ldi 1 false (.t 16)⟩,
  ⟨some 18, none, .bin .add (.str [110, 111, 116, 32]) (.t 17)⟩,
  ⟨some 19, none, .fld 0 (.t 3)⟩,
  ⟨none, none, .sto 3 1 (.t 19) (.t 18)⟩]
@[simp] def c6_r3 : List AOper := [⟨some 20, none, .ldi 2 true (.t 1)⟩,
  ⟨some 21, none, .call 12 [.t 20] []⟩,
  ⟨some 22, none, .not (.t 21)⟩,
  ⟨some 23, none, .mov (.t 22)⟩,
  ⟨some 24, (some (23, false)), .ldo 3 2 true (.t 3)⟩,
  ⟨some 25, (some (23, false)), .call 12 [.t 24] []⟩,
  ⟨some 26, (some (23, false)), .not (.t 25)⟩,
  ⟨some 27, none, .pick (.t 23) (.bool true) (.t 26)⟩]
@[simp] def c6_r4 : List AOper := [⟨some 28, none, .call 13 [] []⟩,
  ⟨some 2, none, .mov (.t 28)⟩]
@[simp] def c6_r5 : List AOper := [⟨some 30, none, .ldi 2 true (.t 1)⟩,
  ⟨some 31, none, .call 14 [.t 30] []⟩,
  ⟨some 29, none, .mov (.t 31)⟩,
  ⟨some 32, none, .ext (.t 29) 0⟩,
  ⟨some 33, none, .ext (.t 29) 1⟩,
  ⟨some 4, none, .mov (.t 32)⟩,
  ⟨some 5, none, .mov (.t 33)⟩]
@[simp] def c6_r6 : List AOper := [⟨some 35, none, .ldo 3 2 true (.t 3)⟩,
  ⟨some 36, none, .call 14 [.t 35] []⟩,
  ⟨some 34, none, .mov (.t 36)⟩,
  ⟨some 37, none, .ext (.t 34) 0⟩,
  ⟨some 38, none, .ext (.t 34) 1⟩,
  ⟨some 6, none, .mov (.t 37)⟩,
  ⟨some 7, none, .mov (.t 38)⟩]
@[simp] def c6_r7 : List AOper := [⟨some 39, none, .mov (.t 5)⟩,
  ⟨some 40, none, .not (.t 39)⟩,
  ⟨some 41, none, .mov (.t 40)⟩,
  ⟨some 42, (some (41, false)), .mov (.t 7)⟩,
  ⟨some 43, (some (41, false)), .not (.t 42)⟩,
  ⟨some 44, none, .pick (.t 41) (.bool true) (.t 43)⟩,
  ⟨some 45, none, .mov (.t 44)⟩,
  ⟨some 46, (some (45, false)), .mov (.t 6)⟩,
  ⟨some 47, (some (45, false)), .len (.t 46)⟩,
  ⟨some 48, (some (45, false)), .mov (.t 4)⟩,
  ⟨some 49, (some (45, false)), .len (.t 48)⟩,
  ⟨some 50, (some (45, false)), .bin .lss (.t 47) (.t 49)⟩,
  ⟨some 51, none, .pick (.t 45) (.bool true) (.t 50)⟩]
@[simp] def c6_r8 : List AOper := [⟨some 2, none, .mov (.bool false)⟩]
@[simp] def c6_r9 : List AOper := [⟨some 52, none, .ldi 2 true (.t 1)⟩,
  ⟨some 53, none, .call 25 [.t 52] []⟩,
  ⟨some 54, none, .len (.t 53)⟩,
  ⟨some 8, none, .mov (.t 54)⟩]
@[simp] def c6_r10 : List AOper := [⟨some 9, none, .mov (.int .i64 0)⟩]
@[simp] def c6_r11 : List AOper := [⟨some 55, none, .mov (.t 9)⟩,
  ⟨some 56, none, .mov (.t 4)⟩,
  ⟨some 57, none, .len (.t 56)⟩,
  ⟨some 58, none, .bin .lss (.t 55) (.t 57)⟩]
@[simp] def c6_r13 : List AOper := [⟨some 62, none, .ldi 2 true (.t 1)⟩,
  ⟨some 63, none, .mov (.t 9)⟩,
  ⟨some 64, none, .call 26 [.t 62, .t 63] []⟩,
  ⟨some 61, none, .mov (.t 64)⟩,
  ⟨some 65, none, .ext (.t 61) 0⟩,
  ⟨some 66, none, .ext (.t 61) 1⟩,
  ⟨some 10, none, .mov (.t 65)⟩,
  ⟨some 11, none, .mov (.t 66)⟩]
@[simp] def c6_r14 : List AOper := [⟨some 68, none, .ldo 3 2 true (.t 3)⟩,
  ⟨some 69, none, .mov (.t 9)⟩,
  ⟨some 70, none, .call 26 [.t 68, .t 69] []⟩,
  ⟨some 67, none, .mov (.t 70)⟩,
  ⟨some 71, none, .ext (.t 67) 0⟩,
  ⟨some 72, none, .ext (.t 67) 1⟩,
  ⟨some 12, none, .mov (.t 71)⟩,
  ⟨some 13, none, .mov (.t 72)⟩]
@[simp] def c6_r15 : List AOper := [⟨some 73, none, .mov (.t 11)⟩,
  ⟨some 74, none, .bin .neq (.t 73) (.int .i64 0)⟩,
  ⟨some 75, none, .mov (.t 74)⟩,
  ⟨some 76, (some (75, false)), .mov (.t 13)⟩,
  ⟨some 77, (some (75, false)), .bin .neq (.t 76) (.int .i64 0)⟩,
  ⟨some 78, none, .pick (.t 75) (.bool true) (.t 77)⟩,
  ⟨some 79, none, .mov (.t 78)⟩,
  ⟨some 80, (some (79, false)), .mov (.t 10)⟩,
  ⟨some 81, (some (79, false)), .bin .lss (.t 80) (.int .i64 0)⟩,
  ⟨some 82, none, .pick (.t 79) (.bool true) (.t 81)⟩,
  ⟨some 83, none, .mov (.t 82)⟩,
  ⟨some 84, (some (83, false)), .mov (.t 10)⟩,
  ⟨some 85, (some (83, false)), .mov (.t 8)⟩,
  ⟨some 86, (some (83, false)), .bin .gtr (.t 84) (.t 85)⟩,
  ⟨some 87, none, .pick (.t 83) (.bool true) (.t 86)⟩,
  ⟨some 88, none, .mov (.t 87)⟩,
  ⟨some 89, (some (88, false)), .mov (.t 12)⟩,
  ⟨some 90, (some (88, false)), .mov (.t 8)⟩,
  ⟨some 91, (some (88, false)), .mov (.t 10)⟩,
  ⟨some 92, (some (88, false)), .bin .sub (.t 90) (.t 91)⟩,
  ⟨some 93, (some (88, false)), .bin .neq (.t 89) (.t 92)⟩,
  ⟨some 94, none, .pick (.t 88) (.bool true) (.t 93)⟩,
  ⟨some 95, none, .mov (.t 94)⟩,
  ⟨some 96, (some (95, false)), .mov (.t 6)⟩,
  ⟨some 97, (some (95, false)), .mov (.t 9)⟩,
  ⟨some 98, (some (95, false)), .ixi 1 (.t 96) (.t 97)⟩,
  ⟨some 99, (some (95, false)), .ldi 1 false (.t 98)⟩,
  ⟨some 100, (some (95, false)), .mov (.t 4)⟩,
  ⟨some 101, (some (95, false)), .mov (.t 9)⟩,
  ⟨some 102, (some (95, false)), .ixi 1 (.t 100) (.t 101)⟩,
  ⟨some 103, (some (95, false)), .ldi 1 false (.t 102)⟩,
  ⟨some 104, (some (95, false)), .bin .add (.str [40, 110, 111, 116, 32]) (.t 103)⟩,
  ⟨some 105, (some (95, false)), .bin .add (.t 104) (.str [41])⟩,
  ⟨some 106, (some (95, false)), .bin .neq (.t 99) (.t 105)⟩,
  ⟨some 107, none, .pick (.t 95) (.bool true) (.t 106)⟩]
@[simp] def c6_r16 : List AOper := [⟨some 2, none, .mov (.bool false)⟩]
@[simp] def c6_r12 : List AOper := [⟨some 59, none, .mov (.t 9)⟩,
  ⟨some 60, none, .bin .add (.t 59) (.int .i64 1)⟩,
  ⟨some 9, none, .mov (.t 60)⟩]
def c6_b0 : AC := .seq (.seq (.ops c6_r11 false) (.cond (.t 58) (.skip) (.exit 0))) (.seq (.block 1 (.seq (.ops c6_r13 false) (.seq (.ops c6_r14 false) (.seq (.ops c6_r15 true) (.cond (.t 107) (.seq (.ops c6_r16 false) (.ret)) (.skip)))))) (.ops c6_r12 false))
@[simp] def c6_r17 : List AOper := [⟨some 108, none, .call 13 [] []⟩,
  ⟨some 2, none, .mov (.t 108)⟩]
@[simp] def c6 : AFn := ⟨109, [.tmp 2], .seq (.ops c6_r0 false) (.seq (.ops c6_r1 false) (.seq (.ops c6_r2 false) (.seq (.seq (.ops c6_r3 false) (.cond (.t 27) (.seq (.ops c6_r4 false) (.ret)) (.skip))) (.seq (.ops c6_r5 false) (.seq (.ops c6_r6 false) (.seq (.seq (.ops c6_r7 false) (.cond (.t 51) (.seq (.ops c6_r8 false) (.ret)) (.skip))) (.seq (.ops c6_r9 false) (.seq (.seq (.ops c6_r10 false) (.block 0 (.loop c6_b0 [1, 3, 4, 6, 8, 9] [3]))) (.seq (.ops c6_r17 false) (.ret))))))))))⟩

/-- shackle shacklelaw13.PapersMeans -/
@[simp] def c7_r0 : List AOper := [⟨some 2, none, .boxi (.t 0)⟩,
  ⟨some 4, none, .mov (.bool false)⟩]
@[simp] def c7_r1 : List AOper := [⟨some 18, none, .ldi 2 true (.t 2)⟩,
  ⟨some 19, none, .call 27 [.t 18] []⟩]
@[simp] def c7_r2 : List AOper := [⟨some 20, none, .call 13 [] []⟩,
  ⟨some 4, none, .mov (.t 20)⟩]
@[simp] def c7_r3 : List AOper := [⟨some 21, none, .ldi 2 true (.t 2)⟩,
  ⟨some 22, none, .call 17 [.t 21] []⟩,
  ⟨some 5, none, .alo 5 [.str [], .nil 1]⟩,
  ⟨none, none, .sto 5 2 (.t 5) (.t 22)⟩]
@[simp] def c7_r4 : List AOper := [⟨some 24, none, .ldo 5 2 true (.t 5)⟩,
  ⟨some 25, none, .mov (.t 1)⟩,
  ⟨some 26, none, .call 28 [.t 24, .t 25] []⟩,
  ⟨some 23, none, .mov (.t 26)⟩,
  ⟨some 27, none, .ext (.t 23) 0⟩,
  ⟨some 28, none, .ext (.t 23) 1⟩,
  ⟨some 6, none, .mov (.t 27)⟩,
  ⟨some 7, none, .mov (.t 28)⟩]
@[simp] def c7_r5 : List AOper := [⟨some 30, none, .ldi 2 true (.t 2)⟩,
  ⟨some 31, none, .mov (.t 1)⟩,
  ⟨some 32, none, .call 29 [.t 30, .t 31] []⟩,
  ⟨some 29, none, .mov (.t 32)⟩,
  ⟨some 33, none, .ext (.t 29) 0⟩,
  ⟨some 34, none, .ext (.t 29) 1⟩,
  ⟨some 8, none, .mov (.t 33)⟩,
  ⟨some 9, none, .mov (.t 34)⟩]
@[simp] def c7_r6 : List AOper := [⟨some 36, none, .ldo 5 2 true (.t 5)⟩,
  ⟨some 37, none, .mov (.t 1)⟩,
  ⟨some 38, none, .call 26 [.t 36, .t 37] []⟩,
  ⟨some 35, none, .mov (.t 38)⟩,
  ⟨some 39, none, .ext (.t 35) 0⟩,
  ⟨some 40, none, .ext (.t 35) 1⟩,
  ⟨some 10, none, .mov (.t 39)⟩,
  ⟨some 11, none, .mov (.t 40)⟩]
@[simp] def c7_r7 : List AOper := [⟨some 42, none, .ldi 2 true (.t 2)⟩,
  ⟨some 43, none, .mov (.t 1)⟩,
  ⟨some 44, none, .call 30 [.t 42, .t 43] []⟩,
  ⟨some 41, none, .mov (.t 44)⟩,
  ⟨some 45, none, .ext (.t 41) 0⟩,
  ⟨some 46, none, .ext (.t 41) 1⟩,
  ⟨some 12, none, .mov (.t 45)⟩,
  ⟨some 13, none, .mov (.t 46)⟩]
@[simp] def c7_r8 : List AOper := [⟨some 48, none, .ldo 5 2 true (.t 5)⟩,
  ⟨some 49, none, .call 31 [.t 48] []⟩,
  ⟨some 47, none, .mov (.t 49)⟩,
  ⟨some 50, none, .ext (.t 47) 0⟩,
  ⟨some 51, none, .ext (.t 47) 1⟩,
  ⟨some 14, none, .mov (.t 50)⟩,
  ⟨some 15, none, .mov (.t 51)⟩]
@[simp] def c7_r9 : List AOper := [⟨some 53, none, .ldi 2 true (.t 2)⟩,
  ⟨some 54, none, .call 32 [.t 53] []⟩,
  ⟨some 52, none, .mov (.t 54)⟩,
  ⟨some 55, none, .ext (.t 52) 0⟩,
  ⟨some 56, none, .ext (.t 52) 1⟩,
  ⟨some 16, none, .mov (.t 55)⟩,
  ⟨some 17, none, .mov (.t 56)⟩]
@[simp] def c7_r10 : List AOper := [⟨some 57, none, .mov (.t 6)⟩,
  ⟨some 58, none, .mov (.t 8)⟩,
  ⟨some 59, none, .bin .eql (.t 57) (.t 58)⟩,
  ⟨some 60, none, .mov (.t 59)⟩,
  ⟨some 61, (some (60, true)), .mov (.t 7)⟩,
  ⟨some 62, (some (60, true)), .mov (.t 9)⟩,
  ⟨some 63, (some (60, true)), .bin .eql (.t 61) (.t 62)⟩,
  ⟨some 64, none, .pick (.t 60) (.t 63) (.bool false)⟩,
  ⟨some 65, none, .mov (.t 64)⟩,
  ⟨some 66, (some (65, true)), .mov (.t 10)⟩,
  ⟨some 67, (some (65, true)), .mov (.t 12)⟩,
  ⟨some 68, (some (65, true)), .bin .eql (.t 66) (.t 67)⟩,
  ⟨some 69, none, .pick (.t 65) (.t 68) (.bool false)⟩,
  ⟨some 70, none, .mov (.t 69)⟩,
  ⟨some 71, (some (70, true)), .mov (.t 11)⟩,
  ⟨some 72, (some (70, true)), .mov (.t 13)⟩,
  ⟨some 73, (some (70, true)), .bin .eql (.t 71) (.t 72)⟩,
  ⟨some 74, none, .pick (.t 70) (.t 73) (.bool false)⟩,
  ⟨some 75, none, .mov (.t 74)⟩,
  ⟨some 76, (some (75, true)), .mov (.t 14)⟩,
  ⟨some 77, (some (75, true)), .mov (.t 16)⟩,
  ⟨some 78, (some (75, true)), .bin .eql (.t 76) (.t 77)⟩,
  ⟨some 79, none, .pick (.t 75) (.t 78) (.bool false)⟩,
  ⟨some 80, none, .mov (.t 79)⟩,
  ⟨some 81, (some (80, true)), .mov (.t 15)⟩,
  ⟨some 82, (some (80, true)), .mov (.t 17)⟩,
  ⟨some 83, (some (80, true)), .bin .eql (.t 81) (.t 82)⟩,
  ⟨some 84, none, .pick (.t 80) (.t 83) (.bool false)⟩,
  ⟨some 85, none, .mov (.t 84)⟩,
  ⟨some 86, (some (85, true)), .fld 1 (.t 5)⟩,
  ⟨some 87, (some (85, true)), .ldo 5 1 false (.t 86)⟩,
  ⟨some 88, (some (85, true)), .fld 1 (.t 2)⟩,
  ⟨some 89, (some (85, true)), .ldi 1 false (.t 88)⟩,
  ⟨some 90, (some (85, true)), .call 24 [.t 87, .t 89] []⟩,
  ⟨some 91, none, .pick (.t 85) (.t 90) (.bool false)⟩,
  ⟨some 92, none, .mov (.t 91)⟩,
  ⟨some 93, (some (92, true)), .call 13 [] []⟩,
  ⟨some 94, none, .pick (.t 92) (.t 93) (.bool false)⟩,
  ⟨some 4, none, .mov (.t 94)⟩]
@[simp] def c7 : AFn := ⟨95, [.tmp 4], .seq (.ops c7_r0 false) (.seq (.seq (.ops c7_r1 false) (.cond (.t 19) (.seq (.ops c7_r2 false) (.ret)) (.skip))) (.seq (.ops c7_r3 false) (.seq (.ops c7_r4 false) (.seq (.ops c7_r5 false) (.seq (.ops c7_r6 false) (.seq (.ops c7_r7 false) (.seq (.ops c7_r8 false) (.seq (.ops c7_r9 false) (.seq (.ops c7_r10 false) (.ret))))))))))⟩

/-- shackle shacklelaw13.PapersTrue -/
@[simp] def c8_r0 : List AOper := [⟨some 2, none, .boxi (.t 0)⟩,
  ⟨some 4, none, .mov (.bool false)⟩]
@[simp] def c8_r1 : List AOper := [⟨some 19, none, .ldi 2 true (.t 2)⟩,
  ⟨some 20, none, .call 12 [.t 19] []⟩,
  ⟨some 21, none, .not (.t 20)⟩,
  ⟨some 22, none, .mov (.t 21)⟩,
  ⟨some 23, (some (22, false)), .mov (.t 1)⟩,
  ⟨some 24, (some (22, false)), .len (.t 23)⟩,
  ⟨some 25, (some (22, false)), .bin .gtr (.t 24) (.int .i64 40)⟩,
  ⟨some 26, none, .pick (.t 22) (.bool true) (.t 25)⟩]
@[simp] def c8_r2 : List AOper := [⟨some 27, none, .call 13 [] []⟩,
  ⟨some 4, none, .mov (.t 27)⟩]
@[simp] def c8_r3 : List AOper := [⟨some 29, none, .ldi 2 true (.t 2)⟩,
  ⟨some 30, none, .call 33 [.t 29] []⟩,
  ⟨some 28, none, .mov (.t 30)⟩,
  ⟨some 31, none, .ext (.t 28) 0⟩,
  ⟨some 32, none, .ext (.t 28) 1⟩,
  ⟨some 5, none, .mov (.t 31)⟩,
  ⟨some 6, none, .mov (.t 32)⟩]
@[simp] def c8_r4 : List AOper := [⟨some 33, none, .ldi 2 true (.t 2)⟩,
  ⟨some 34, none, .call 25 [.t 33] []⟩,
  ⟨some 7, none, .mov (.t 34)⟩]
@[simp] def c8_r5 : List AOper := [⟨some 36, none, .ldi 2 true (.t 2)⟩,
  ⟨some 37, none, .mov (.t 1)⟩,
  ⟨some 38, none, .call 34 [.t 36, .t 37] []⟩,
  ⟨some 35, none, .mov (.t 38)⟩,
  ⟨some 39, none, .ext (.t 35) 0⟩,
  ⟨some 40, none, .ext (.t 35) 1⟩,
  ⟨some 8, none, .mov (.t 39)⟩,
  ⟨some 9, none, .mov (.t 40)⟩]
@[simp] def c8_r6 : List AOper := [⟨some 42, none, .ldi 2 true (.t 2)⟩,
  ⟨some 43, none, .call 21 [.t 42] []⟩,
  ⟨some 41, none, .mov (.t 43)⟩,
  ⟨some 44, none, .ext (.t 41) 0⟩,
  ⟨some 45, none, .ext (.t 41) 1⟩,
  ⟨some 10, none, .mov (.t 44)⟩,
  ⟨some 11, none, .mov (.t 45)⟩]
@[simp] def c8_r7 : List AOper := [⟨some 47, none, .ldi 2 true (.t 2)⟩,
  ⟨some 48, none, .call 35 [.t 47] []⟩,
  ⟨some 46, none, .mov (.t 48)⟩,
  ⟨some 49, none, .ext (.t 46) 0⟩,
  ⟨some 50, none, .ext (.t 46) 1⟩,
  ⟨some 12, none, .mov (.t 49)⟩,
  ⟨some 13, none, .mov (.t 50)⟩]
@[simp] def c8_r8 : List AOper := [⟨some 51, none, .mov (.t 11)⟩,
  ⟨some 52, none, .bin .neq (.t 51) (.int .i64 0)⟩,
  ⟨some 53, none, .mov (.t 52)⟩,
  ⟨some 54, (some (53, false)), .mov (.t 13)⟩,
  ⟨some 55, (some (53, false)), .bin .neq (.t 54) (.int .i64 0)⟩,
  ⟨some 56, none, .pick (.t 53) (.bool true) (.t 55)⟩,
  ⟨some 57, none, .mov (.t 56)⟩,
  ⟨some 58, (some (57, false)), .mov (.t 10)⟩,
  ⟨some 59, (some (57, false)), .mov (.t 5)⟩,
  ⟨some 60, (some (57, false)), .len (.t 59)⟩,
  ⟨some 61, (some (57, false)), .bin .neq (.t 58) (.t 60)⟩,
  ⟨some 62, none, .pick (.t 57) (.bool true) (.t 61)⟩,
  ⟨some 63, none, .mov (.t 62)⟩,
  ⟨some 64, (some (63, false)), .mov (.t 12)⟩,
  ⟨some 65, (some (63, false)), .call 36 [.t 64] []⟩,
  ⟨some 66, (some (63, false)), .not (.t 65)⟩,
  ⟨some 67, none, .pick (.t 63) (.bool true) (.t 66)⟩]
@[simp] def c8_r9 : List AOper := [⟨some 4, none, .mov (.bool false)⟩]
@[simp] def c8_r10 : List AOper := [⟨some 14, none, .mov (.int .i64 0)⟩]
@[simp] def c8_r11 : List AOper := [⟨some 68, none, .mov (.t 14)⟩,
  ⟨some 69, none, .mov (.t 5)⟩,
  ⟨some 70, none, .len (.t 69)⟩,
  ⟨some 71, none, .bin .lss (.t 68) (.t 70)⟩]
@[simp] def c8_r13 : List AOper := [⟨some 75, none, .ldi 2 true (.t 2)⟩,
  ⟨some 76, none, .mov (.t 14)⟩,
  ⟨some 77, none, .call 28 [.t 75, .t 76] []⟩,
  ⟨some 74, none, .mov (.t 77)⟩,
  ⟨some 78, none, .ext (.t 74) 0⟩,
  ⟨some 79, none, .ext (.t 74) 1⟩,
  ⟨some 15, none, .mov (.t 78)⟩,
  ⟨some 16, none, .mov (.t 79)⟩]
@[simp] def c8_r14 : List AOper := [⟨some 81, none, .ldi 2 true (.t 2)⟩,
  ⟨some 82, none, .mov (.t 14)⟩,
  ⟨some 83, none, .call 26 [.t 81, .t 82] []⟩,
  ⟨some 80, none, .mov (.t 83)⟩,
  ⟨some 84, none, .ext (.t 80) 0⟩,
  ⟨some 85, none, .ext (.t 80) 1⟩,
  ⟨some 17, none, .mov (.t 84)⟩,
  ⟨some 18, none, .mov (.t 85)⟩]
@[simp] def c8_r15 : List AOper := [⟨some 86, none, .mov (.t 16)⟩,
  ⟨some 87, none, .bin .neq (.t 86) (.int .i64 0)⟩,
  ⟨some 88, none, .mov (.t 87)⟩,
  ⟨some 89, (some (88, false)), .mov (.t 18)⟩,
  ⟨some 90, (some (88, false)), .bin .neq (.t 89) (.int .i64 0)⟩,
  ⟨some 91, none, .pick (.t 88) (.bool true) (.t 90)⟩,
  ⟨some 92, none, .mov (.t 91)⟩,
  ⟨some 93, (some (92, false)), .mov (.t 15)⟩,
  ⟨some 94, (some (92, false)), .call 36 [.t 93] []⟩,
  ⟨some 95, (some (92, false)), .not (.t 94)⟩,
  ⟨some 96, none, .pick (.t 92) (.bool true) (.t 95)⟩,
  ⟨some 97, none, .mov (.t 96)⟩,
  ⟨some 98, (some (97, false)), .mov (.t 17)⟩,
  ⟨some 99, (some (97, false)), .mov (.t 7)⟩,
  ⟨some 100, (some (97, false)), .len (.t 99)⟩,
  ⟨some 101, (some (97, false)), .bin .eql (.t 98) (.t 100)⟩,
  ⟨some 102, (some (97, false)), .mov (.t 15)⟩,
  ⟨some 103, (some (97, false)), .bin .eql (.t 102) (.int .i64 1)⟩,
  ⟨some 104, (some (97, false)), .beq true (.t 101) (.t 103)⟩,
  ⟨some 105, none, .pick (.t 97) (.bool true) (.t 104)⟩,
  ⟨some 106, none, .mov (.t 105)⟩,
  ⟨some 107, (some (106, false)), .mov (.t 17)⟩,
  ⟨some 108, (some (106, false)), .bin .eql (.t 107) (.int .i64 0)⟩,
  ⟨some 109, (some (106, false)), .mov (.t 15)⟩,
  ⟨some 110, (some (106, false)), .bin .eql (.t 109) (.int .i64 2)⟩,
  ⟨some 111, (some (106, false)), .beq true (.t 108) (.t 110)⟩,
  ⟨some 112, none, .pick (.t 106) (.bool true) (.t 111)⟩,
  ⟨some 113, none, .mov (.t 112)⟩,
  ⟨some 114, (some (113, false)), .mov (.t 17)⟩,
  ⟨some 115, (some (113, false)), .bin .lss (.t 114) (.int .i64 0)⟩,
  ⟨some 116, none, .pick (.t 113) (.bool true) (.t 115)⟩,
  ⟨some 117, none, .mov (.t 116)⟩,
  ⟨some 118, (some (117, false)), .mov (.t 17)⟩,
  ⟨some 119, (some (117, false)), .mov (.t 7)⟩,
  ⟨some 120, (some (117, false)), .len (.t 119)⟩,
  ⟨some 121, (some (117, false)), .bin .gtr (.t 118) (.t 120)⟩,
  ⟨some 122, none, .pick (.t 117) (.bool true) (.t 121)⟩,
  ⟨some 123, none, .mov (.t 122)⟩,
  ⟨some 124, (some (123, false)), .mov (.t 12)⟩,
  ⟨some 125, (some (123, false)), .bin .neq (.t 124) (.int .i64 3)⟩,
  ⟨some 126, (some (123, false)), .mov (.t 125)⟩,
  ⟨some 127, (some (126, true)), .mov (.t 15)⟩,
  ⟨some 128, (some (126, true)), .mov (.t 12)⟩,
  ⟨some 129, (some (126, true)), .bin .neq (.t 127) (.t 128)⟩,
  ⟨some 130, (some (123, false)), .pick (.t 126) (.t 129) (.bool false)⟩,
  ⟨some 131, none, .pick (.t 123) (.bool true) (.t 130)⟩]
@[simp] def c8_r16 : List AOper := [⟨some 4, none, .mov (.bool false)⟩]
@[simp] def c8_r17 : List AOper := [⟨some 132, none, .mov (.t 9)⟩,
  ⟨some 133, none, .mov (.t 132)⟩,
  ⟨some 134, (some (133, true)), .mov (.t 15)⟩,
  ⟨some 135, (some (133, true)), .mov (.t 5)⟩,
  ⟨some 136, (some (133, true)), .mov (.t 14)⟩,
  ⟨some 137, (some (133, true)), .ixi 2 (.t 135) (.t 136)⟩,
  ⟨some 138, (some (133, true)), .ldi 2 true (.t 137)⟩,
  ⟨some 139, (some (133, true)), .mov (.t 8)⟩,
  ⟨some 140, (some (133, true)), .call 38 [.t 138, .t 139] []⟩,
  ⟨some 141, (some (133, true)), .call 37 [.t 134, .t 140] []⟩,
  ⟨some 142, (some (133, true)), .not (.t 141)⟩,
  ⟨some 143, none, .pick (.t 133) (.t 142) (.bool false)⟩]
@[simp] def c8_r18 : List AOper := [⟨some 4, none, .mov (.bool false)⟩]
@[simp] def c8_r12 : List AOper := [⟨some 72, none, .mov (.t 14)⟩,
  ⟨some 73, none, .bin .add (.t 72) (.int .i64 1)⟩,
  ⟨some 14, none, .mov (.t 73)⟩]
def c8_b0 : AC := .seq (.seq (.ops c8_r11 false) (.cond (.t 71) (.skip) (.exit 0))) (.seq (.block 1 (.seq (.ops c8_r13 false) (.seq (.ops c8_r14 false) (.seq (.seq (.ops c8_r15 false) (.cond (.t 131) (.seq (.ops c8_r16 false) (.ret)) (.skip))) (.seq (.ops c8_r17 false) (.cond (.t 143) (.seq (.ops c8_r18 false) (.ret)) (.skip))))))) (.ops c8_r12 false))
@[simp] def c8_r19 : List AOper := [⟨some 144, none, .call 13 [] []⟩,
  ⟨some 4, none, .mov (.t 144)⟩]
@[simp] def c8 : AFn := ⟨145, [.tmp 4], .seq (.ops c8_r0 false) (.seq (.seq (.ops c8_r1 false) (.cond (.t 26) (.seq (.ops c8_r2 false) (.ret)) (.skip))) (.seq (.ops c8_r3 false) (.seq (.ops c8_r4 false) (.seq (.ops c8_r5 false) (.seq (.ops c8_r6 false) (.seq (.ops c8_r7 false) (.seq (.seq (.ops c8_r8 false) (.cond (.t 67) (.seq (.ops c8_r9 false) (.ret)) (.skip))) (.seq (.seq (.ops c8_r10 false) (.block 0 (.loop c8_b0 [2, 5, 7, 8, 9, 12, 14] []))) (.seq (.ops c8_r19 false) (.ret))))))))))⟩

/-- shackle shacklelaw13.PapersClear -/
@[simp] def c9_r0 : List AOper := [⟨some 1, none, .boxi (.t 0)⟩,
  ⟨some 2, none, .mov (.bool false)⟩]
@[simp] def c9_r1 : List AOper := [⟨some 23, none, .ldi 2 true (.t 1)⟩,
  ⟨some 24, none, .call 12 [.t 23] []⟩,
  ⟨some 25, none, .not (.t 24)⟩]
@[simp] def c9_r2 : List AOper := [⟨some 26, none, .call 13 [] []⟩,
  ⟨some 2, none, .mov (.t 26)⟩]
@[simp] def c9_r3 : List AOper := [⟨some 28, none, .ldi 2 true (.t 1)⟩,
  ⟨some 29, none, .call 21 [.t 28] []⟩,
  ⟨some 27, none, .mov (.t 29)⟩,
  ⟨some 30, none, .ext (.t 27) 0⟩,
  ⟨some 31, none, .ext (.t 27) 1⟩,
  ⟨some 3, none, .mov (.t 30)⟩,
  ⟨some 4, none, .mov (.t 31)⟩]
@[simp] def c9_r4 : List AOper := [⟨some 33, none, .ldi 2 true (.t 1)⟩,
  ⟨some 34, none, .call 39 [.t 33] []⟩,
  ⟨some 32, none, .mov (.t 34)⟩,
  ⟨some 35, none, .ext (.t 32) 0⟩,
  ⟨some 36, none, .ext (.t 32) 1⟩,
  ⟨some 5, none, .mov (.t 35)⟩,
  ⟨some 6, none, .mov (.t 36)⟩]
@[simp] def c9_r5 : List AOper := [⟨some 38, none, .ldi 2 true (.t 1)⟩,
  ⟨some 39, none, .call 40 [.t 38] []⟩,
  ⟨some 37, none, .mov (.t 39)⟩,
  ⟨some 40, none, .ext (.t 37) 0⟩,
  ⟨some 41, none, .ext (.t 37) 1⟩,
  ⟨some 7, none, .mov (.t 40)⟩,
  ⟨some 8, none, .mov (.t 41)⟩]
@[simp] def c9_r6 : List AOper := [⟨some 43, none, .ldi 2 true (.t 1)⟩,
  ⟨some 44, none, .call 41 [.t 43] []⟩,
  ⟨some 42, none, .mov (.t 44)⟩,
  ⟨some 45, none, .ext (.t 42) 0⟩,
  ⟨some 46, none, .ext (.t 42) 1⟩,
  ⟨some 9, none, .mov (.t 45)⟩,
  ⟨some 10, none, .mov (.t 46)⟩]
@[simp] def c9_r7 : List AOper := [⟨some 48, none, .ldi 2 true (.t 1)⟩,
  ⟨some 49, none, .call 31 [.t 48] []⟩,
  ⟨some 47, none, .mov (.t 49)⟩,
  ⟨some 50, none, .ext (.t 47) 0⟩,
  ⟨some 51, none, .ext (.t 47) 1⟩,
  ⟨some 11, none, .mov (.t 50)⟩,
  ⟨some 12, none, .mov (.t 51)⟩]
@[simp] def c9_r8 : List AOper := [⟨some 52, none, .mov (.t 4)⟩,
  ⟨some 53, none, .bin .neq (.t 52) (.int .i64 0)⟩,
  ⟨some 54, none, .mov (.t 53)⟩,
  ⟨some 55, (some (54, false)), .mov (.t 6)⟩,
  ⟨some 56, (some (54, false)), .bin .neq (.t 55) (.int .i64 0)⟩,
  ⟨some 57, none, .pick (.t 54) (.bool true) (.t 56)⟩,
  ⟨some 58, none, .mov (.t 57)⟩,
  ⟨some 59, (some (58, false)), .mov (.t 8)⟩,
  ⟨some 60, (some (58, false)), .bin .neq (.t 59) (.int .i64 0)⟩,
  ⟨some 61, none, .pick (.t 58) (.bool true) (.t 60)⟩,
  ⟨some 62, none, .mov (.t 61)⟩,
  ⟨some 63, (some (62, false)), .mov (.t 12)⟩,
  ⟨some 64, (some (62, false)), .bin .neq (.t 63) (.int .i64 0)⟩,
  ⟨some 65, none, .pick (.t 62) (.bool true) (.t 64)⟩,
  ⟨some 66, none, .mov (.t 65)⟩,
  ⟨some 67, (some (66, false)), .mov (.t 3)⟩,
  ⟨some 68, (some (66, false)), .bin .lss (.t 67) (.int .i64 1)⟩,
  ⟨some 69, none, .pick (.t 66) (.bool true) (.t 68)⟩,
  ⟨some 70, none, .mov (.t 69)⟩,
  ⟨some 71, (some (70, false)), .mov (.t 3)⟩,
  ⟨some 72, (some (70, false)), .bin .gtr (.t 71) (.int .i64 5000)⟩,
  ⟨some 73, none, .pick (.t 70) (.bool true) (.t 72)⟩,
  ⟨some 74, none, .mov (.t 73)⟩,
  ⟨some 75, (some (74, false)), .mov (.t 11)⟩,
  ⟨some 76, (some (74, false)), .bin .lss (.t 75) (.int .i64 0)⟩,
  ⟨some 77, none, .pick (.t 74) (.bool true) (.t 76)⟩,
  ⟨some 78, none, .mov (.t 77)⟩,
  ⟨some 79, (some (78, false)), .mov (.t 11)⟩,
  ⟨some 80, (some (78, false)), .mov (.t 3)⟩,
  ⟨some 81, (some (78, false)), .bin .geq (.t 79) (.t 80)⟩,
  ⟨some 82, none, .pick (.t 78) (.bool true) (.t 81)⟩,
  ⟨some 83, none, .mov (.t 82)⟩,
  ⟨some 84, (some (83, false)), .mov (.t 3)⟩,
  ⟨some 85, (some (83, false)), .bin .eql (.t 84) (.int .i64 1)⟩,
  ⟨some 86, (some (83, false)), .mov (.t 85)⟩,
  ⟨some 87, (some (86, true)), .mov (.t 5)⟩,
  ⟨some 88, (some (86, true)), .not (.t 87)⟩,
  ⟨some 89, (some (83, false)), .pick (.t 86) (.t 88) (.bool false)⟩,
  ⟨some 90, none, .pick (.t 83) (.bool true) (.t 89)⟩,
  ⟨some 91, none, .mov (.t 90)⟩,
  ⟨some 92, (some (91, false)), .mov (.t 10)⟩,
  ⟨some 93, (some (91, false)), .bin .eql (.t 92) (.int .i64 3)⟩,
  ⟨some 94, (some (91, false)), .mov (.t 5)⟩,
  ⟨some 95, (some (91, false)), .beq true (.t 93) (.t 94)⟩,
  ⟨some 96, none, .pick (.t 91) (.bool true) (.t 95)⟩,
  ⟨some 97, none, .mov (.t 96)⟩,
  ⟨some 98, (some (97, false)), .mov (.t 10)⟩,
  ⟨some 99, (some (97, false)), .bin .eql (.t 98) (.int .i64 0)⟩,
  ⟨some 100, (some (97, false)), .mov (.t 5)⟩,
  ⟨some 101, (some (97, false)), .beq false (.t 99) (.t 100)⟩,
  ⟨some 102, none, .pick (.t 97) (.bool true) (.t 101)⟩,
  ⟨some 103, none, .mov (.t 102)⟩,
  ⟨some 104, (some (103, false)), .mov (.t 7)⟩,
  ⟨some 105, (some (103, false)), .len (.t 104)⟩,
  ⟨some 106, (some (103, false)), .fld 1 (.t 1)⟩,
  ⟨some 107, (some (103, false)), .ldi 1 false (.t 106)⟩,
  ⟨some 108, (some (103, false)), .len (.t 107)⟩,
  ⟨some 109, (some (103, false)), .bin .gtr (.t 105) (.t 108)⟩,
  ⟨some 110, none, .pick (.t 103) (.bool true) (.t 109)⟩,
  ⟨some 111, none, .mov (.t 110)⟩,
  ⟨some 112, (some (111, false)), .mov (.t 9)⟩,
  ⟨some 113, (some (111, false)), .len (.t 112)⟩,
  ⟨some 114, (some (111, false)), .bin .gtr (.t 113) (.int .i64 40)⟩,
  ⟨some 115, none, .pick (.t 111) (.bool true) (.t 114)⟩]
@[simp] def c9_r9 : List AOper := [⟨some 2, none, .mov (.bool false)⟩]
@[simp] def c9_r10 : List AOper := [⟨some 13, none, .mov (.int .i64 0)⟩]
@[simp] def c9_r11 : List AOper := [⟨some 116, none, .mov (.t 13)⟩,
  ⟨some 117, none, .mov (.t 7)⟩,
  ⟨some 118, none, .len (.t 117)⟩,
  ⟨some 119, none, .bin .lss (.t 116) (.t 118)⟩]
@[simp] def c9_r13 : List AOper := [⟨some 122, none, .mov (.t 7)⟩,
  ⟨some 123, none, .mov (.t 13)⟩,
  ⟨some 124, none, .ixi 1 (.t 122) (.t 123)⟩,
  ⟨some 125, none, .ldi 1 false (.t 124)⟩,
  ⟨some 126, none, .fld 1 (.t 1)⟩,
  ⟨some 127, none, .ldi 1 false (.t 126)⟩,
  ⟨some 128, none, .len (.t 127)⟩,
  ⟨some 129, none, .bin .sub (.t 128) (.int .i64 1)⟩,
  ⟨some 130, none, .call 42 [.t 125, .int .i64 0, .t 129] []⟩,
  ⟨some 131, none, .not (.t 130)⟩,
  ⟨some 132, none, .mov (.t 131)⟩,
  ⟨some 133, (some (132, false)), .fld 1 (.t 1)⟩,
  ⟨some 134, (some (132, false)), .ldi 1 false (.t 133)⟩,
  ⟨some 135, (some (132, false)), .mov (.t 7)⟩,
  ⟨some 136, (some (132, false)), .mov (.t 13)⟩,
  ⟨some 137, (some (132, false)), .ixi 1 (.t 135) (.t 136)⟩,
  ⟨some 138, (some (132, false)), .ldi 1 false (.t 137)⟩,
  ⟨some 139, (some (132, false)), .ixi 1 (.t 134) (.t 138)⟩,
  ⟨some 140, (some (132, false)), .ldi 1 false (.t 139)⟩,
  ⟨some 141, (some (132, false)), .bin .neq (.t 140) (.int .i64 3)⟩,
  ⟨some 142, none, .pick (.t 132) (.bool true) (.t 141)⟩]
@[simp] def c9_r14 : List AOper := [⟨some 2, none, .mov (.bool false)⟩]
@[simp] def c9_r12 : List AOper := [⟨some 120, none, .mov (.t 13)⟩,
  ⟨some 121, none, .bin .add (.t 120) (.int .i64 1)⟩,
  ⟨some 13, none, .mov (.t 121)⟩]
def c9_b0 : AC := .seq (.seq (.ops c9_r11 false) (.cond (.t 119) (.skip) (.exit 0))) (.seq (.block 1 (.seq (.ops c9_r13 true) (.cond (.t 142) (.seq (.ops c9_r14 false) (.ret)) (.skip)))) (.ops c9_r12 false))
@[simp] def c9_r15 : List AOper := [⟨some 143, none, .mov (.t 10)⟩,
  ⟨some 144, none, .bin .eql (.t 143) (.int .i64 0)⟩]
@[simp] def c9_r16 : List AOper := [⟨some 146, none, .ldi 2 true (.t 1)⟩,
  ⟨some 147, none, .mov (.t 9)⟩,
  ⟨some 148, none, .call 34 [.t 146, .t 147] []⟩,
  ⟨some 145, none, .mov (.t 148)⟩,
  ⟨some 149, none, .ext (.t 145) 0⟩,
  ⟨some 150, none, .ext (.t 145) 1⟩,
  ⟨some 14, none, .mov (.t 149)⟩,
  ⟨some 15, none, .mov (.t 150)⟩]
@[simp] def c9_r17 : List AOper := [⟨some 151, none, .mov (.t 15)⟩,
  ⟨some 152, none, .not (.t 151)⟩]
@[simp] def c9_r18 : List AOper := [⟨some 2, none, .mov (.bool false)⟩]
@[simp] def c9_r19 : List AOper := [⟨some 154, none, .ldi 2 true (.t 1)⟩,
  ⟨some 155, none, .mov (.t 11)⟩,
  ⟨some 156, none, .call 26 [.t 154, .t 155] []⟩,
  ⟨some 153, none, .mov (.t 156)⟩,
  ⟨some 157, none, .ext (.t 153) 0⟩,
  ⟨some 158, none, .ext (.t 153) 1⟩,
  ⟨some 16, none, .mov (.t 157)⟩,
  ⟨some 17, none, .mov (.t 158)⟩]
@[simp] def c9_r20 : List AOper := [⟨some 159, none, .mov (.t 17)⟩,
  ⟨some 160, none, .bin .neq (.t 159) (.int .i64 0)⟩]
@[simp] def c9_r21 : List AOper := [⟨some 2, none, .mov (.bool false)⟩]
@[simp] def c9_r22 : List AOper := [⟨some 18, none, .mov (.int .i64 0)⟩]
@[simp] def c9_r23 : List AOper := [⟨some 161, none, .mov (.t 18)⟩,
  ⟨some 162, none, .mov (.t 3)⟩,
  ⟨some 163, none, .bin .lss (.t 161) (.t 162)⟩]
@[simp] def c9_r25 : List AOper := [⟨some 167, none, .ldi 2 true (.t 1)⟩,
  ⟨some 168, none, .mov (.t 18)⟩,
  ⟨some 169, none, .call 26 [.t 167, .t 168] []⟩,
  ⟨some 166, none, .mov (.t 169)⟩,
  ⟨some 170, none, .ext (.t 166) 0⟩,
  ⟨some 171, none, .ext (.t 166) 1⟩,
  ⟨some 19, none, .mov (.t 170)⟩,
  ⟨some 20, none, .mov (.t 171)⟩]
@[simp] def c9_r26 : List AOper := [⟨some 173, none, .ldi 2 true (.t 1)⟩,
  ⟨some 174, none, .mov (.t 18)⟩,
  ⟨some 175, none, .call 28 [.t 173, .t 174] []⟩,
  ⟨some 172, none, .mov (.t 175)⟩,
  ⟨some 176, none, .ext (.t 172) 0⟩,
  ⟨some 177, none, .ext (.t 172) 1⟩,
  ⟨some 21, none, .mov (.t 176)⟩,
  ⟨some 22, none, .mov (.t 177)⟩]
@[simp] def c9_r27 : List AOper := [⟨some 178, none, .mov (.t 20)⟩,
  ⟨some 179, none, .bin .neq (.t 178) (.int .i64 0)⟩,
  ⟨some 180, none, .mov (.t 179)⟩,
  ⟨some 181, (some (180, false)), .mov (.t 22)⟩,
  ⟨some 182, (some (180, false)), .bin .neq (.t 181) (.int .i64 0)⟩,
  ⟨some 183, none, .pick (.t 180) (.bool true) (.t 182)⟩,
  ⟨some 184, none, .mov (.t 183)⟩,
  ⟨some 185, (some (184, false)), .mov (.t 19)⟩,
  ⟨some 186, (some (184, false)), .mov (.t 16)⟩,
  ⟨some 187, (some (184, false)), .bin .lss (.t 185) (.t 186)⟩,
  ⟨some 188, none, .pick (.t 184) (.bool true) (.t 187)⟩,
  ⟨some 189, none, .mov (.t 188)⟩,
  ⟨some 190, (some (189, false)), .mov (.t 19)⟩,
  ⟨some 191, (some (189, false)), .mov (.t 16)⟩,
  ⟨some 192, (some (189, false)), .bin .eql (.t 190) (.t 191)⟩,
  ⟨some 193, (some (189, false)), .mov (.t 192)⟩,
  ⟨some 194, (some (193, true)), .mov (.t 18)⟩,
  ⟨some 195, (some (193, true)), .mov (.t 11)⟩,
  ⟨some 196, (some (193, true)), .bin .lss (.t 194) (.t 195)⟩,
  ⟨some 197, (some (189, false)), .pick (.t 193) (.t 196) (.bool false)⟩,
  ⟨some 198, none, .pick (.t 189) (.bool true) (.t 197)⟩,
  ⟨some 199, none, .mov (.t 198)⟩,
  ⟨some 200, (some (199, false)), .mov (.t 7)⟩,
  ⟨some 201, (some (199, false)), .len (.t 200)⟩,
  ⟨some 202, (some (199, false)), .bin .eql (.t 201) (.int .i64 0)⟩,
  ⟨some 203, (some (199, false)), .mov (.t 202)⟩,
  ⟨some 204, (some (203, true)), .mov (.t 21)⟩,
  ⟨some 205, (some (203, true)), .bin .eql (.t 204) (.int .i64 3)⟩,
  ⟨some 206, (some (199, false)), .pick (.t 203) (.t 205) (.bool false)⟩,
  ⟨some 207, none, .pick (.t 199) (.bool true) (.t 206)⟩]
@[simp] def c9_r28 : List AOper := [⟨some 2, none, .mov (.bool false)⟩]
@[simp] def c9_r24 : List AOper := [⟨some 164, none, .mov (.t 18)⟩,
  ⟨some 165, none, .bin .add (.t 164) (.int .i64 1)⟩,
  ⟨some 18, none, .mov (.t 165)⟩]
def c9_b1 : AC := .seq (.seq (.ops c9_r23 false) (.cond (.t 163) (.skip) (.exit 2))) (.seq (.block 3 (.seq (.ops c9_r25 false) (.seq (.ops c9_r26 false) (.seq (.ops c9_r27 false) (.cond (.t 207) (.seq (.ops c9_r28 false) (.ret)) (.skip)))))) (.ops c9_r24 false))
@[simp] def c9_r29 : List AOper := [⟨some 208, none, .call 13 [] []⟩,
  ⟨some 2, none, .mov (.t 208)⟩]
@[simp] def c9 : AFn := ⟨209, [.tmp 2], .seq (.ops c9_r0 false) (.seq (.seq (.ops c9_r1 false) (.cond (.t 25) (.seq (.ops c9_r2 false) (.ret)) (.skip))) (.seq (.ops c9_r3 false) (.seq (.ops c9_r4 false) (.seq (.ops c9_r5 false) (.seq (.ops c9_r6 false) (.seq (.ops c9_r7 false) (.seq (.seq (.ops c9_r8 false) (.cond (.t 115) (.seq (.ops c9_r9 false) (.ret)) (.skip))) (.seq (.seq (.ops c9_r10 false) (.block 0 (.loop c9_b0 [1, 3, 7, 9, 10, 11, 13] []))) (.seq (.seq (.ops c9_r15 false) (.cond (.t 144) (.seq (.ops c9_r16 false) (.seq (.ops c9_r17 false) (.cond (.t 152) (.seq (.ops c9_r18 false) (.ret)) (.skip)))) (.skip))) (.seq (.ops c9_r19 false) (.seq (.seq (.ops c9_r20 false) (.cond (.t 160) (.seq (.ops c9_r21 false) (.ret)) (.skip))) (.seq (.seq (.ops c9_r22 false) (.block 2 (.loop c9_b1 [1, 3, 7, 11, 16, 18] []))) (.seq (.ops c9_r29 false) (.ret))))))))))))))⟩

/-- shackle shacklelaw13.PapersCourt -/
@[simp] def c10_r0 : List AOper := [⟨some 1, none, .boxi (.t 0)⟩,
  ⟨some 2, none, .mov (.bool false)⟩]
@[simp] def c10_r1 : List AOper := [⟨some 23, none, .ldi 2 true (.t 1)⟩,
  ⟨some 24, none, .call 27 [.t 23] []⟩]
@[simp] def c10_r2 : List AOper := [⟨some 25, none, .call 13 [] []⟩,
  ⟨some 2, none, .mov (.t 25)⟩]
@[simp] def c10_r3 : List AOper := [⟨some 26, none, .ldi 2 true (.t 1)⟩,
  ⟨some 27, none, .call 17 [.t 26] []⟩,
  ⟨some 3, none, .alo 3 [.str [], .nil 1]⟩,
  ⟨none, none, .sto 3 2 (.t 3) (.t 27)⟩]
@[simp] def c10_r4 : List AOper := [⟨some 29, none, .ldo 3 2 true (.t 3)⟩,
  ⟨some 30, none, .call 35 [.t 29] []⟩,
  ⟨some 28, none, .mov (.t 30)⟩,
  ⟨some 31, none, .ext (.t 28) 0⟩,
  ⟨some 32, none, .ext (.t 28) 1⟩,
  ⟨some 4, none, .mov (.t 31)⟩,
  ⟨some 5, none, .mov (.t 32)⟩]
@[simp] def c10_r5 : List AOper := [⟨some 34, none, .ldi 2 true (.t 1)⟩,
  ⟨some 35, none, .call 43 [.t 34] []⟩,
  ⟨some 33, none, .mov (.t 35)⟩,
  ⟨some 36, none, .ext (.t 33) 0⟩,
  ⟨some 37, none, .ext (.t 33) 1⟩,
  ⟨some 6, none, .mov (.t 36)⟩,
  ⟨some 7, none, .mov (.t 37)⟩]
@[simp] def c10_r6 : List AOper := [⟨some 39, none, .ldo 3 2 true (.t 3)⟩,
  ⟨some 40, none, .call 39 [.t 39] []⟩,
  ⟨some 38, none, .mov (.t 40)⟩,
  ⟨some 41, none, .ext (.t 38) 0⟩,
  ⟨some 42, none, .ext (.t 38) 1⟩,
  ⟨some 8, none, .mov (.t 41)⟩,
  ⟨some 9, none, .mov (.t 42)⟩]
@[simp] def c10_r7 : List AOper := [⟨some 44, none, .ldi 2 true (.t 1)⟩,
  ⟨some 45, none, .call 44 [.t 44] []⟩,
  ⟨some 43, none, .mov (.t 45)⟩,
  ⟨some 46, none, .ext (.t 43) 0⟩,
  ⟨some 47, none, .ext (.t 43) 1⟩,
  ⟨some 10, none, .mov (.t 46)⟩,
  ⟨some 11, none, .mov (.t 47)⟩]
@[simp] def c10_r8 : List AOper := [⟨some 49, none, .ldo 3 2 true (.t 3)⟩,
  ⟨some 50, none, .call 40 [.t 49] []⟩,
  ⟨some 48, none, .mov (.t 50)⟩,
  ⟨some 51, none, .ext (.t 48) 0⟩,
  ⟨some 52, none, .ext (.t 48) 1⟩,
  ⟨some 12, none, .mov (.t 51)⟩,
  ⟨some 13, none, .mov (.t 52)⟩]
@[simp] def c10_r9 : List AOper := [⟨some 54, none, .ldi 2 true (.t 1)⟩,
  ⟨some 55, none, .call 45 [.t 54] []⟩,
  ⟨some 53, none, .mov (.t 55)⟩,
  ⟨some 56, none, .ext (.t 53) 0⟩,
  ⟨some 57, none, .ext (.t 53) 1⟩,
  ⟨some 14, none, .mov (.t 56)⟩,
  ⟨some 15, none, .mov (.t 57)⟩]
@[simp] def c10_r10 : List AOper := [⟨some 59, none, .ldo 3 2 true (.t 3)⟩,
  ⟨some 60, none, .call 41 [.t 59] []⟩,
  ⟨some 58, none, .mov (.t 60)⟩,
  ⟨some 61, none, .ext (.t 58) 0⟩,
  ⟨some 62, none, .ext (.t 58) 1⟩,
  ⟨some 16, none, .mov (.t 61)⟩,
  ⟨some 17, none, .mov (.t 62)⟩]
@[simp] def c10_r11 : List AOper := [⟨some 63, none, .mov (.t 4)⟩,
  ⟨some 64, none, .mov (.t 6)⟩,
  ⟨some 65, none, .bin .neq (.t 63) (.t 64)⟩,
  ⟨some 66, none, .mov (.t 65)⟩,
  ⟨some 67, (some (66, false)), .mov (.t 5)⟩,
  ⟨some 68, (some (66, false)), .mov (.t 7)⟩,
  ⟨some 69, (some (66, false)), .bin .neq (.t 67) (.t 68)⟩,
  ⟨some 70, none, .pick (.t 66) (.bool true) (.t 69)⟩,
  ⟨some 71, none, .mov (.t 70)⟩,
  ⟨some 72, (some (71, false)), .mov (.t 8)⟩,
  ⟨some 73, (some (71, false)), .mov (.t 10)⟩,
  ⟨some 74, (some (71, false)), .beq true (.t 72) (.t 73)⟩,
  ⟨some 75, none, .pick (.t 71) (.bool true) (.t 74)⟩,
  ⟨some 76, none, .mov (.t 75)⟩,
  ⟨some 77, (some (76, false)), .mov (.t 9)⟩,
  ⟨some 78, (some (76, false)), .mov (.t 11)⟩,
  ⟨some 79, (some (76, false)), .bin .neq (.t 77) (.t 78)⟩,
  ⟨some 80, none, .pick (.t 76) (.bool true) (.t 79)⟩,
  ⟨some 81, none, .mov (.t 80)⟩,
  ⟨some 82, (some (81, false)), .mov (.t 12)⟩,
  ⟨some 83, (some (81, false)), .mov (.t 14)⟩,
  ⟨some 84, (some (81, false)), .call 24 [.t 82, .t 83] []⟩,
  ⟨some 85, (some (81, false)), .not (.t 84)⟩,
  ⟨some 86, none, .pick (.t 81) (.bool true) (.t 85)⟩,
  ⟨some 87, none, .mov (.t 86)⟩,
  ⟨some 88, (some (87, false)), .mov (.t 13)⟩,
  ⟨some 89, (some (87, false)), .mov (.t 15)⟩,
  ⟨some 90, (some (87, false)), .bin .neq (.t 88) (.t 89)⟩,
  ⟨some 91, none, .pick (.t 87) (.bool true) (.t 90)⟩,
  ⟨some 92, none, .mov (.t 91)⟩,
  ⟨some 93, (some (92, false)), .mov (.t 16)⟩,
  ⟨some 94, (some (92, false)), .len (.t 93)⟩,
  ⟨some 95, (some (92, false)), .bin .gtr (.t 94) (.int .i64 40)⟩,
  ⟨some 96, none, .pick (.t 92) (.bool true) (.t 95)⟩,
  ⟨some 97, none, .mov (.t 96)⟩,
  ⟨some 98, (some (97, false)), .fld 1 (.t 3)⟩,
  ⟨some 99, (some (97, false)), .ldo 3 1 false (.t 98)⟩,
  ⟨some 100, (some (97, false)), .fld 1 (.t 1)⟩,
  ⟨some 101, (some (97, false)), .ldi 1 false (.t 100)⟩,
  ⟨some 102, (some (97, false)), .call 24 [.t 99, .t 101] []⟩,
  ⟨some 103, (some (97, false)), .not (.t 102)⟩,
  ⟨some 104, none, .pick (.t 97) (.bool true) (.t 103)⟩]
@[simp] def c10_r12 : List AOper := [⟨some 2, none, .mov (.bool false)⟩]
@[simp] def c10_r13 : List AOper := [⟨some 105, none, .mov (.t 11)⟩,
  ⟨some 106, none, .bin .neq (.t 105) (.int .i64 0)⟩,
  ⟨some 107, none, .mov (.t 106)⟩,
  ⟨some 108, (some (107, false)), .mov (.t 10)⟩,
  ⟨some 109, none, .pick (.t 107) (.bool true) (.t 108)⟩]
@[simp] def c10_r14 : List AOper := [⟨some 110, none, .mov (.t 11)⟩,
  ⟨some 18, none, .mov (.t 110)⟩]
@[simp] def c10_r15 : List AOper := [⟨some 111, none, .mov (.t 10)⟩]
@[simp] def c10_r16 : List AOper := [⟨some 18, none, .mov (.int .i64 3)⟩]
@[simp] def c10_r17 : List AOper := [⟨some 112, none, .mov (.t 17)⟩,
  ⟨some 113, none, .mov (.t 18)⟩,
  ⟨some 114, none, .bin .eql (.t 112) (.t 113)⟩,
  ⟨some 115, none, .mov (.t 114)⟩,
  ⟨some 116, (some (115, true)), .mov (.t 16)⟩,
  ⟨some 117, (some (115, true)), .len (.t 116)⟩,
  ⟨some 118, (some (115, true)), .bin .eql (.t 117) (.int .i64 0)⟩,
  ⟨some 119, none, .pick (.t 115) (.t 118) (.bool false)⟩,
  ⟨some 120, none, .mov (.t 119)⟩,
  ⟨some 121, (some (120, true)), .call 13 [] []⟩,
  ⟨some 122, none, .pick (.t 120) (.t 121) (.bool false)⟩,
  ⟨some 2, none, .mov (.t 122)⟩]
@[simp] def c10_r18 : List AOper := [⟨some 124, none, .ldi 2 true (.t 1)⟩,
  ⟨some 125, none, .call 33 [.t 124] []⟩,
  ⟨some 123, none, .mov (.t 125)⟩,
  ⟨some 126, none, .ext (.t 123) 0⟩,
  ⟨some 127, none, .ext (.t 123) 1⟩,
  ⟨some 19, none, .mov (.t 126)⟩,
  ⟨some 20, none, .mov (.t 127)⟩]
@[simp] def c10_r19 : List AOper := [⟨some 129, none, .ldi 2 true (.t 1)⟩,
  ⟨some 130, none, .mov (.t 16)⟩,
  ⟨some 131, none, .call 34 [.t 129, .t 130] []⟩,
  ⟨some 128, none, .mov (.t 131)⟩,
  ⟨some 132, none, .ext (.t 128) 0⟩,
  ⟨some 133, none, .ext (.t 128) 1⟩,
  ⟨some 21, none, .mov (.t 132)⟩,
  ⟨some 22, none, .mov (.t 133)⟩]
@[simp] def c10_r20 : List AOper := [⟨some 134, none, .mov (.t 17)⟩,
  ⟨some 135, none, .bin .eql (.t 134) (.int .i64 0)⟩,
  ⟨some 136, none, .mov (.t 135)⟩,
  ⟨some 137, (some (136, true)), .mov (.t 22)⟩,
  ⟨some 138, none, .pick (.t 136) (.t 137) (.bool false)⟩,
  ⟨some 139, none, .mov (.t 138)⟩,
  ⟨some 140, (some (139, true)), .mov (.t 19)⟩,
  ⟨some 141, (some (139, true)), .mov (.t 21)⟩,
  ⟨some 142, (some (139, true)), .call 46 [.t 140, .t 141] []⟩,
  ⟨some 143, none, .pick (.t 139) (.t 142) (.bool false)⟩,
  ⟨some 144, none, .mov (.t 143)⟩,
  ⟨some 145, (some (144, true)), .call 13 [] []⟩,
  ⟨some 146, none, .pick (.t 144) (.t 145) (.bool false)⟩,
  ⟨some 2, none, .mov (.t 146)⟩]
@[simp] def c10 : AFn := ⟨147, [.tmp 2], .seq (.ops c10_r0 false) (.seq (.seq (.ops c10_r1 false) (.cond (.t 24) (.seq (.ops c10_r2 false) (.ret)) (.skip))) (.seq (.ops c10_r3 false) (.seq (.ops c10_r4 false) (.seq (.ops c10_r5 false) (.seq (.ops c10_r6 false) (.seq (.ops c10_r7 false) (.seq (.ops c10_r8 false) (.seq (.ops c10_r9 false) (.seq (.ops c10_r10 false) (.seq (.seq (.ops c10_r11 false) (.cond (.t 104) (.seq (.ops c10_r12 false) (.ret)) (.skip))) (.seq (.seq (.ops c10_r13 false) (.cond (.t 109) (.seq (.ops c10_r14 false) (.seq (.seq (.ops c10_r15 false) (.cond (.t 111) (.ops c10_r16 false) (.skip))) (.seq (.ops c10_r17 false) (.ret)))) (.skip))) (.seq (.ops c10_r18 false) (.seq (.ops c10_r19 false) (.seq (.ops c10_r20 false) (.ret)))))))))))))))⟩

/-- shackle shacklelaw13.ready -/
@[simp] def c12_r0 : List AOper := [⟨some 1, none, .boxi (.t 0)⟩,
  ⟨some 2, none, .mov (.bool false)⟩]
@[simp] def c12_r1 : List AOper := [⟨some 3, none, .ldi 2 true (.t 1)⟩,
  ⟨some 4, none, .call 27 [.t 3] []⟩,
  ⟨some 5, none, .not (.t 4)⟩,
  ⟨some 6, none, .mov (.t 5)⟩,
  ⟨some 7, (some (6, true)), .ldi 2 true (.t 1)⟩,
  ⟨some 8, (some (6, true)), .call 20 [.t 7] []⟩,
  ⟨some 9, (some (6, true)), .bin .eql (.t 8) (.int .i64 0)⟩,
  ⟨some 10, none, .pick (.t 6) (.t 9) (.bool false)⟩,
  ⟨some 2, none, .mov (.t 10)⟩]
@[simp] def c12 : AFn := ⟨11, [.tmp 2], .seq (.ops c12_r0 false) (.seq (.ops c12_r1 false) (.ret))⟩

/-- shackle shacklelaw13.works -/
@[simp] def c13_r0 : List AOper := [⟨some 0, none, .mov (.bool false)⟩]
@[simp] def c13_r1 : List AOper := [⟨some 12, none, .call 49 [] []⟩,
  ⟨some 1, none, .alo 1 [.str [], .nil 1]⟩,
  ⟨none, none, .sto 1 2 (.t 1) (.t 12)⟩]
@[simp] def c13_r2 : List AOper := [⟨some 14, none, .ldo 1 2 true (.t 1)⟩,
  ⟨some 15, none, .call 21 [.t 14] []⟩,
  ⟨some 13, none, .mov (.t 15)⟩,
  ⟨some 16, none, .ext (.t 13) 0⟩,
  ⟨some 17, none, .ext (.t 13) 1⟩,
  ⟨some 2, none, .mov (.t 16)⟩,
  ⟨some 3, none, .mov (.t 17)⟩]
@[simp] def c13_r3 : List AOper := [⟨some 19, none, .ldo 1 2 true (.t 1)⟩,
  ⟨some 20, none, .call 16 [.t 19, .int .i64 3] []⟩,
  ⟨some 18, none, .mov (.t 20)⟩,
  ⟨some 21, none, .ext (.t 18) 0⟩,
  ⟨some 22, none, .ext (.t 18) 1⟩,
  ⟨some 4, none, .mov (.t 21)⟩,
  ⟨some 5, none, .mov (.t 22)⟩]
@[simp] def c13_r4 : List AOper := [⟨some 24, none, .ldo 1 2 true (.t 1)⟩,
  ⟨some 25, none, .call 28 [.t 24, .int .i64 1] []⟩,
  ⟨some 23, none, .mov (.t 25)⟩,
  ⟨some 26, none, .ext (.t 23) 0⟩,
  ⟨some 27, none, .ext (.t 23) 1⟩,
  ⟨some 6, none, .mov (.t 26)⟩,
  ⟨some 7, none, .mov (.t 27)⟩]
@[simp] def c13_r5 : List AOper := [⟨some 29, none, .ldo 1 2 true (.t 1)⟩,
  ⟨some 30, none, .call 31 [.t 29] []⟩,
  ⟨some 28, none, .mov (.t 30)⟩,
  ⟨some 31, none, .ext (.t 28) 0⟩,
  ⟨some 32, none, .ext (.t 28) 1⟩,
  ⟨some 8, none, .mov (.t 31)⟩,
  ⟨some 9, none, .mov (.t 32)⟩]
@[simp] def c13_r6 : List AOper := [⟨some 34, none, .ldo 1 2 true (.t 1)⟩,
  ⟨some 35, none, .call 40 [.t 34] []⟩,
  ⟨some 33, none, .mov (.t 35)⟩,
  ⟨some 36, none, .ext (.t 33) 0⟩,
  ⟨some 37, none, .ext (.t 33) 1⟩,
  ⟨some 10, none, .mov (.t 36)⟩,
  ⟨some 11, none, .mov (.t 37)⟩]
@[simp] def c13_r7 : List AOper := [⟨some 38, none, .mov (.t 3)⟩,
  ⟨some 39, none, .bin .eql (.t 38) (.int .i64 0)⟩,
  ⟨some 40, none, .mov (.t 39)⟩,
  ⟨some 41, (some (40, true)), .mov (.t 5)⟩,
  ⟨some 42, (some (40, true)), .bin .eql (.t 41) (.int .i64 0)⟩,
  ⟨some 43, none, .pick (.t 40) (.t 42) (.bool false)⟩,
  ⟨some 44, none, .mov (.t 43)⟩,
  ⟨some 45, (some (44, true)), .mov (.t 7)⟩,
  ⟨some 46, (some (44, true)), .bin .eql (.t 45) (.int .i64 0)⟩,
  ⟨some 47, none, .pick (.t 44) (.t 46) (.bool false)⟩,
  ⟨some 48, none, .mov (.t 47)⟩,
  ⟨some 49, (some (48, true)), .mov (.t 9)⟩,
  ⟨some 50, (some (48, true)), .bin .eql (.t 49) (.int .i64 0)⟩,
  ⟨some 51, none, .pick (.t 48) (.t 50) (.bool false)⟩,
  ⟨some 52, none, .mov (.t 51)⟩,
  ⟨some 53, (some (52, true)), .mov (.t 11)⟩,
  ⟨some 54, (some (52, true)), .bin .eql (.t 53) (.int .i64 0)⟩,
  ⟨some 55, none, .pick (.t 52) (.t 54) (.bool false)⟩,
  ⟨some 56, none, .mov (.t 55)⟩,
  ⟨some 57, (some (56, true)), .mov (.t 2)⟩,
  ⟨some 58, (some (56, true)), .bin .eql (.t 57) (.int .i64 5)⟩,
  ⟨some 59, none, .pick (.t 56) (.t 58) (.bool false)⟩,
  ⟨some 60, none, .mov (.t 59)⟩,
  ⟨some 61, (some (60, true)), .mov (.t 4)⟩,
  ⟨some 62, (some (60, true)), .bin .eql (.t 61) (.str [40, 40, 110, 111, 116, 32, 40, 97, 32, 97, 110, 100, 32, 98, 41, 41, 32, 111, 114, 32, 99, 41])⟩,
  ⟨some 63, none, .pick (.t 60) (.t 62) (.bool false)⟩,
  ⟨some 64, none, .mov (.t 63)⟩,
  ⟨some 65, (some (64, true)), .mov (.t 6)⟩,
  ⟨some 66, (some (64, true)), .bin .eql (.t 65) (.int .i64 2)⟩,
  ⟨some 67, none, .pick (.t 64) (.t 66) (.bool false)⟩,
  ⟨some 68, none, .mov (.t 67)⟩,
  ⟨some 69, (some (68, true)), .mov (.t 8)⟩,
  ⟨some 70, (some (68, true)), .bin .eql (.t 69) (.int .i64 1)⟩,
  ⟨some 71, none, .pick (.t 68) (.t 70) (.bool false)⟩,
  ⟨some 72, none, .mov (.t 71)⟩,
  ⟨some 73, (some (72, true)), .mov (.t 10)⟩,
  ⟨some 74, (some (72, true)), .bsl 1 [.int .i64 0]⟩,
  ⟨some 75, (some (72, true)), .call 24 [.t 73, .t 74] []⟩,
  ⟨some 76, none, .pick (.t 72) (.t 75) (.bool false)⟩,
  ⟨some 0, none, .mov (.t 76)⟩]
@[simp] def c13 : AFn := ⟨77, [.tmp 0], .seq (.ops c13_r0 false) (.seq (.ops c13_r1 false) (.seq (.ops c13_r2 false) (.seq (.ops c13_r3 false) (.seq (.ops c13_r4 false) (.seq (.ops c13_r5 false) (.seq (.ops c13_r6 false) (.seq (.ops c13_r7 false) (.ret))))))))⟩

/-- shackle shacklelaw13.texts -/
@[simp] def c14_r0 : List AOper := [⟨some 1, none, .boxi (.t 0)⟩,
  ⟨some 2, none, .mov (.nil 1)⟩,
  ⟨some 3, none, .mov (.bool false)⟩]
@[simp] def c14_r1 : List AOper := [⟨some 11, none, .ldi 2 true (.t 1)⟩,
  ⟨some 12, none, .call 21 [.t 11] []⟩,
  ⟨some 10, none, .mov (.t 12)⟩,
  ⟨some 13, none, .ext (.t 10) 0⟩,
  ⟨some 14, none, .ext (.t 10) 1⟩,
  ⟨some 4, none, .mov (.t 13)⟩,
  ⟨some 5, none, .mov (.t 14)⟩]
@[simp] def c14_r2 : List AOper := [⟨some 15, none, .mov (.t 5)⟩,
  ⟨some 16, none, .bin .neq (.t 15) (.int .i64 0)⟩,
  ⟨some 17, none, .mov (.t 16)⟩,
  ⟨some 18, (some (17, false)), .mov (.t 4)⟩,
  ⟨some 19, (some (17, false)), .bin .lss (.t 18) (.int .i64 1)⟩,
  ⟨some 20, none, .pick (.t 17) (.bool true) (.t 19)⟩,
  ⟨some 21, none, .mov (.t 20)⟩,
  ⟨some 22, (some (21, false)), .mov (.t 4)⟩,
  ⟨some 23, (some (21, false)), .bin .gtr (.t 22) (.int .i64 5000)⟩,
  ⟨some 24, none, .pick (.t 21) (.bool true) (.t 23)⟩]
@[simp] def c14_r3 : List AOper := [⟨some 2, none, .mov (.nil 1)⟩,
  ⟨some 3, none, .mov (.bool false)⟩]
@[simp] def c14_r4 : List AOper := [⟨some 6, none, .nilo 6 9 1⟩]
@[simp] def c14_r5 : List AOper := [⟨some 7, none, .mov (.int .i64 0)⟩]
@[simp] def c14_r6 : List AOper := [⟨some 25, none, .mov (.t 7)⟩,
  ⟨some 26, none, .mov (.t 4)⟩,
  ⟨some 27, none, .bin .lss (.t 25) (.t 26)⟩]
@[simp] def c14_r8 : List AOper := [⟨some 31, none, .ldi 2 true (.t 1)⟩,
  ⟨some 32, none, .mov (.t 7)⟩,
  ⟨some 33, none, .call 16 [.t 31, .t 32] []⟩,
  ⟨some 30, none, .mov (.t 33)⟩,
  ⟨some 34, none, .ext (.t 30) 0⟩,
  ⟨some 35, none, .ext (.t 30) 1⟩,
  ⟨some 8, none, .mov (.t 34)⟩,
  ⟨some 9, none, .mov (.t 35)⟩]
@[simp] def c14_r9 : List AOper := [⟨some 36, none, .mov (.t 9)⟩,
  ⟨some 37, none, .bin .neq (.t 36) (.int .i64 0)⟩,
  ⟨some 38, none, .mov (.t 37)⟩,
  ⟨some 39, (some (38, false)), .mov (.t 8)⟩,
  ⟨some 40, (some (38, false)), .lst (.t 39)⟩,
  ⟨some 41, (some (38, false)), .bin .gtr (.t 40) (.int .i64 500)⟩,
  ⟨some 42, none, .pick (.t 38) (.bool true) (.t 41)⟩]
@[simp] def c14_r10 : List AOper := [⟨some 2, none, .mov (.nil 1)⟩,
  ⟨some 3, none, .mov (.bool false)⟩]
@[simp] def c14_r11 : List AOper := [⟨some 43, none, .mov (.t 6)⟩,
  ⟨some 44, none, .mov (.t 8)⟩,
  ⟨some 45, none, .bsl 1 [.t 44]⟩,
  ⟨some 46, none, .app 6 9 1 16 (.t 43) (.t 45)⟩,
  ⟨some 6, none, .mov (.t 46)⟩]
@[simp] def c14_r7 : List AOper := [⟨some 28, none, .mov (.t 7)⟩,
  ⟨some 29, none, .bin .add (.t 28) (.int .i64 1)⟩,
  ⟨some 7, none, .mov (.t 29)⟩]
def c14_b0 : AC := .seq (.seq (.ops c14_r6 false) (.cond (.t 27) (.skip) (.exit 0))) (.seq (.block 1 (.seq (.ops c14_r8 false) (.seq (.seq (.ops c14_r9 false) (.cond (.t 42) (.seq (.ops c14_r10 false) (.ret)) (.skip))) (.ops c14_r11 false)))) (.ops c14_r7 false))
@[simp] def c14_r12 : List AOper := [⟨some 47, none, .mov (.t 6)⟩,
  ⟨some 2, none, .mov (.t 47)⟩,
  ⟨some 3, none, .mov (.bool true)⟩]
@[simp] def c14 : AFn := ⟨48, [.tmp 2, .tmp 3], .seq (.ops c14_r0 false) (.seq (.ops c14_r1 false) (.seq (.seq (.ops c14_r2 false) (.cond (.t 24) (.seq (.ops c14_r3 false) (.ret)) (.skip))) (.seq (.ops c14_r4 false) (.seq (.seq (.ops c14_r5 false) (.block 0 (.loop c14_b0 [1, 4, 6, 7] [6]))) (.seq (.ops c14_r12 false) (.ret))))))⟩

/-- shackle shacklelaw13.bare -/
@[simp] def c15_r0 : List AOper := [⟨some 2, none, .mov (.str [])⟩]
@[simp] def c15_r1 : List AOper := [⟨some 3, none, .mov (.str [])⟩]
@[simp] def c15_r2 : List AOper := [⟨some 4, none, .mov (.int .i64 0)⟩]
@[simp] def c15_r3 : List AOper := [⟨some 5, none, .mov (.t 4)⟩,
  ⟨some 6, none, .mov (.t 0)⟩,
  ⟨some 7, none, .lst (.t 6)⟩,
  ⟨some 8, none, .bin .lss (.t 5) (.t 7)⟩]
@[simp] def c15_r5 : List AOper := [⟨some 11, none, .mov (.t 0)⟩,
  ⟨some 12, none, .mov (.t 4)⟩,
  ⟨some 13, none, .ixs (.t 11) (.t 12)⟩,
  ⟨some 14, none, .bin .neq (.t 13) (.int .u8 40)⟩,
  ⟨some 15, none, .mov (.t 14)⟩,
  ⟨some 16, (some (15, true)), .mov (.t 0)⟩,
  ⟨some 17, (some (15, true)), .mov (.t 4)⟩,
  ⟨some 18, (some (15, true)), .ixs (.t 16) (.t 17)⟩,
  ⟨some 19, (some (15, true)), .bin .neq (.t 18) (.int .u8 41)⟩,
  ⟨some 20, none, .pick (.t 15) (.t 19) (.bool false)⟩]
@[simp] def c15_r6 : List AOper := [⟨some 21, none, .mov (.t 3)⟩,
  ⟨some 22, none, .mov (.t 0)⟩,
  ⟨some 23, none, .mov (.t 4)⟩,
  ⟨some 24, none, .ixs (.t 22) (.t 23)⟩,
  ⟨some 25, none, .bsl 1 [.t 24]⟩,
  ⟨some 26, none, .b2s (.t 25)⟩,
  ⟨some 27, none, .bin .add (.t 21) (.t 26)⟩,
  ⟨some 3, none, .mov (.t 27)⟩]
@[simp] def c15_r4 : List AOper := [⟨some 9, none, .mov (.t 4)⟩,
  ⟨some 10, none, .bin .add (.t 9) (.int .i64 1)⟩,
  ⟨some 4, none, .mov (.t 10)⟩]
def c15_b0 : AC := .seq (.seq (.ops c15_r3 false) (.cond (.t 8) (.skip) (.exit 0))) (.seq (.block 1 (.seq (.ops c15_r5 false) (.cond (.t 20) (.ops c15_r6 false) (.skip)))) (.ops c15_r4 false))
@[simp] def c15_r7 : List AOper := [⟨some 28, none, .mov (.t 3)⟩,
  ⟨some 2, none, .mov (.t 28)⟩]
@[simp] def c15 : AFn := ⟨29, [.tmp 2], .seq (.ops c15_r0 false) (.seq (.ops c15_r1 false) (.seq (.seq (.ops c15_r2 false) (.block 0 (.loop c15_b0 [0, 3, 4] []))) (.seq (.ops c15_r7 false) (.ret))))⟩

/-- shackle papers.Write -/
@[simp] def c16_r0 : List AOper := [⟨some 2, none, .boxi (.t 0)⟩,
  ⟨some 4, none, .mov (.str [])⟩,
  ⟨some 5, none, .mov (.int .i64 0)⟩]
@[simp] def c16_r1 : List AOper := [⟨some 10, none, .ldi 2 true (.t 2)⟩,
  ⟨some 11, none, .mov (.t 1)⟩,
  ⟨some 12, none, .call 50 [.t 10, .t 11] []⟩,
  ⟨some 9, none, .mov (.t 12)⟩,
  ⟨some 13, none, .ext (.t 9) 0⟩,
  ⟨some 14, none, .ext (.t 9) 1⟩,
  ⟨some 15, none, .ext (.t 9) 2⟩,
  ⟨some 6, none, .mov (.t 13)⟩,
  ⟨some 7, none, .mov (.t 14)⟩,
  ⟨some 8, none, .mov (.t 15)⟩]
@[simp] def c16_r2 : List AOper := [⟨some 16, none, .mov (.t 8)⟩,
  ⟨some 17, none, .bin .neq (.t 16) (.int .i64 0)⟩]
@[simp] def c16_r3 : List AOper := [⟨some 18, none, .mov (.t 8)⟩,
  ⟨some 4, none, .mov (.str [])⟩,
  ⟨some 5, none, .mov (.t 18)⟩]
@[simp] def c16_r4 : List AOper := [⟨some 19, none, .mov (.t 7)⟩,
  ⟨some 20, none, .call 51 [.t 19] []⟩,
  ⟨some 4, none, .mov (.t 20)⟩,
  ⟨some 5, none, .mov (.int .i64 0)⟩]
@[simp] def c16 : AFn := ⟨21, [.tmp 4, .tmp 5], .seq (.ops c16_r0 false) (.seq (.ops c16_r1 false) (.seq (.seq (.ops c16_r2 false) (.cond (.t 17) (.seq (.ops c16_r3 false) (.ret)) (.skip))) (.seq (.ops c16_r4 false) (.ret))))⟩

/-- shackle shacklelaw13.clone -/
@[simp] def c17_r0 : List AOper := [⟨some 1, none, .boxi (.t 0)⟩,
  ⟨some 2, none, .alo 2 [.str [], .nil 1]⟩]
@[simp] def c17_r1 : List AOper := [⟨some 3, none, .fld 0 (.t 1)⟩,
  ⟨some 4, none, .ldi 1 false (.t 3)⟩,
  ⟨some 5, none, .bso 5 3 1 []⟩,
  ⟨some 6, none, .fld 1 (.t 1)⟩,
  ⟨some 7, none, .ldi 1 false (.t 6)⟩,
  ⟨some 8, none, .app 5 3 1 8 (.t 5) (.t 7)⟩,
  ⟨some 9, none, .bld [.str [], .nil 1] [(0, 1, .t 4), (1, 1, .t 8)]⟩,
  ⟨none, none, .sto 2 2 (.t 2) (.t 9)⟩]
@[simp] def c17 : AFn := ⟨10, [.cell 2 2 true], .seq (.ops c17_r0 false) (.seq (.ops c17_r1 true) (.ret))⟩

/-- shackle shackleref13.Split -/
@[simp] def c18_r0 : List AOper := [⟨some 2, none, .mov (.nil 1)⟩]
@[simp] def c18_r1 : List AOper := [⟨some 5, none, .bso 5 9 1 [.str []]⟩,
  ⟨some 3, none, .mov (.t 5)⟩]
@[simp] def c18_r2 : List AOper := [⟨some 4, none, .mov (.int .i64 0)⟩]
@[simp] def c18_r3 : List AOper := [⟨some 6, none, .mov (.t 4)⟩,
  ⟨some 7, none, .mov (.t 0)⟩,
  ⟨some 8, none, .lst (.t 7)⟩,
  ⟨some 9, none, .bin .lss (.t 6) (.t 8)⟩]
@[simp] def c18_r5 : List AOper := [⟨some 12, none, .mov (.t 0)⟩,
  ⟨some 13, none, .mov (.t 4)⟩,
  ⟨some 14, none, .ixs (.t 12) (.t 13)⟩,
  ⟨some 15, none, .bin .eql (.t 14) (.int .u8 32)⟩]
@[simp] def c18_r6 : List AOper := [⟨some 16, none, .mov (.t 3)⟩,
  ⟨some 17, none, .bsl 1 [.str []]⟩,
  ⟨some 18, none, .app 5 9 1 16 (.t 16) (.t 17)⟩,
  ⟨some 3, none, .mov (.t 18)⟩]
@[simp] def c18_r7 : List AOper := [⟨some 19, none, .mov (.t 3)⟩,
  ⟨some 20, none, .mov (.t 3)⟩,
  ⟨some 21, none, .leno 5 (.t 20)⟩,
  ⟨some 22, none, .bin .sub (.t 21) (.int .i64 1)⟩,
  ⟨some 23, none, .ixo 5 1 (.t 19) (.t 22)⟩,
  ⟨some 24, none, .ldo 5 1 false (.t 23)⟩,
  ⟨some 25, none, .mov (.t 0)⟩,
  ⟨some 26, none, .mov (.t 4)⟩,
  ⟨some 27, none, .ixs (.t 25) (.t 26)⟩,
  ⟨some 28, none, .bsl 1 [.t 27]⟩,
  ⟨some 29, none, .b2s (.t 28)⟩,
  ⟨some 30, none, .bin .add (.t 24) (.t 29)⟩,
  ⟨some 31, none, .ixo 5 1 (.t 19) (.t 22)⟩,
  ⟨none, none, .sto 5 1 (.t 31) (.t 30)⟩]
@[simp] def c18_r4 : List AOper := [⟨some 10, none, .mov (.t 4)⟩,
  ⟨some 11, none, .bin .add (.t 10) (.int .i64 1)⟩,
  ⟨some 4, none, .mov (.t 11)⟩]
def c18_b0 : AC := .seq (.seq (.ops c18_r3 false) (.cond (.t 9) (.skip) (.exit 0))) (.seq (.block 1 (.seq (.ops c18_r5 false) (.cond (.t 15) (.ops c18_r6 false) (.ops c18_r7 true)))) (.ops c18_r4 false))
@[simp] def c18_r8 : List AOper := [⟨some 32, none, .mov (.t 3)⟩,
  ⟨some 2, none, .mov (.t 32)⟩]
@[simp] def c18 : AFn := ⟨33, [.tmp 2], .seq (.ops c18_r0 false) (.seq (.ops c18_r1 false) (.seq (.seq (.ops c18_r2 false) (.block 0 (.loop c18_b0 [0, 3, 4] [5]))) (.seq (.ops c18_r8 false) (.ret))))⟩

/-- shackle papers.Check -/
@[simp] def c19_r0 : List AOper := [⟨some 1, none, .boxi (.t 0)⟩,
  ⟨some 2, none, .mov (.int .i64 0)⟩]
@[simp] def c19_r1 : List AOper := [⟨some 6, none, .ldi 2 true (.t 1)⟩,
  ⟨some 7, none, .call 52 [.t 6] []⟩,
  ⟨some 5, none, .mov (.t 7)⟩,
  ⟨some 8, none, .ext (.t 5) 0⟩,
  ⟨some 9, none, .ext (.t 5) 1⟩,
  ⟨some 3, none, .mov (.t 8)⟩,
  ⟨some 4, none, .mov (.t 9)⟩]
@[simp] def c19_r2 : List AOper := [⟨some 10, none, .mov (.t 4)⟩,
  ⟨some 2, none, .mov (.t 10)⟩]
@[simp] def c19 : AFn := ⟨11, [.tmp 2], .seq (.ops c19_r0 false) (.seq (.ops c19_r1 false) (.seq (.ops c19_r2 false) (.ret)))⟩

/-- shackle shackleref13.Check -/
@[simp] def c20_r0 : List AOper := [⟨some 1, none, .boxi (.t 0)⟩,
  ⟨some 2, none, .mov (.int .i64 0)⟩]
@[simp] def c20_r1 : List AOper := [⟨some 6, none, .ldi 2 true (.t 1)⟩,
  ⟨some 7, none, .call 33 [.t 6] []⟩,
  ⟨some 5, none, .mov (.t 7)⟩,
  ⟨some 8, none, .ext (.t 5) 0⟩,
  ⟨some 9, none, .ext (.t 5) 1⟩,
  ⟨some 3, none, .mov (.t 8)⟩,
  ⟨some 4, none, .mov (.t 9)⟩]
@[simp] def c20_r2 : List AOper := [⟨some 10, none, .mov (.t 4)⟩,
  ⟨some 2, none, .mov (.t 10)⟩]
@[simp] def c20 : AFn := ⟨11, [.tmp 2], .seq (.ops c20_r0 false) (.seq (.ops c20_r1 false) (.seq (.ops c20_r2 false) (.ret)))⟩

/-- shackle papers.Readings -/
@[simp] def c21_r0 : List AOper := [⟨some 1, none, .boxi (.t 0)⟩,
  ⟨some 2, none, .mov (.int .i64 0)⟩,
  ⟨some 3, none, .mov (.int .i64 0)⟩]
@[simp] def c21_r1 : List AOper := [⟨some 7, none, .ldi 2 true (.t 1)⟩,
  ⟨some 8, none, .call 52 [.t 7] []⟩,
  ⟨some 6, none, .mov (.t 8)⟩,
  ⟨some 9, none, .ext (.t 6) 0⟩,
  ⟨some 10, none, .ext (.t 6) 1⟩,
  ⟨some 4, none, .mov (.t 9)⟩,
  ⟨some 5, none, .mov (.t 10)⟩]
@[simp] def c21_r2 : List AOper := [⟨some 11, none, .mov (.t 5)⟩,
  ⟨some 12, none, .bin .neq (.t 11) (.int .i64 0)⟩]
@[simp] def c21_r3 : List AOper := [⟨some 13, none, .mov (.t 5)⟩,
  ⟨some 2, none, .mov (.int .i64 0)⟩,
  ⟨some 3, none, .mov (.t 13)⟩]
@[simp] def c21_r4 : List AOper := [⟨some 14, none, .mov (.t 4)⟩,
  ⟨some 15, none, .nilc (.t 14)⟩,
  ⟨some 16, none, .fld 0 (.t 15)⟩,
  ⟨some 17, none, .ldi 1 false (.t 16)⟩,
  ⟨some 18, none, .len (.t 17)⟩,
  ⟨some 2, none, .mov (.t 18)⟩,
  ⟨some 3, none, .mov (.int .i64 0)⟩]
@[simp] def c21 : AFn := ⟨19, [.tmp 2, .tmp 3], .seq (.ops c21_r0 false) (.seq (.ops c21_r1 false) (.seq (.seq (.ops c21_r2 false) (.cond (.t 12) (.seq (.ops c21_r3 false) (.ret)) (.skip))) (.seq (.ops c21_r4 false) (.ret))))⟩

/-- shackle shackleref13.Readings -/
@[simp] def c22_r0 : List AOper := [⟨some 1, none, .boxi (.t 0)⟩,
  ⟨some 2, none, .mov (.int .i64 0)⟩,
  ⟨some 3, none, .mov (.int .i64 0)⟩]
@[simp] def c22_r1 : List AOper := [⟨some 7, none, .ldi 2 true (.t 1)⟩,
  ⟨some 8, none, .call 33 [.t 7] []⟩,
  ⟨some 6, none, .mov (.t 8)⟩,
  ⟨some 9, none, .ext (.t 6) 0⟩,
  ⟨some 10, none, .ext (.t 6) 1⟩,
  ⟨some 4, none, .mov (.t 9)⟩,
  ⟨some 5, none, .mov (.t 10)⟩]
@[simp] def c22_r2 : List AOper := [⟨some 11, none, .mov (.t 4)⟩,
  ⟨some 12, none, .len (.t 11)⟩,
  ⟨some 13, none, .mov (.t 5)⟩,
  ⟨some 2, none, .mov (.t 12)⟩,
  ⟨some 3, none, .mov (.t 13)⟩]
@[simp] def c22 : AFn := ⟨14, [.tmp 2, .tmp 3], .seq (.ops c22_r0 false) (.seq (.ops c22_r1 false) (.seq (.ops c22_r2 false) (.ret)))⟩

/-- shackle shackleref13.Write -/
@[simp] def c23_r0 : List AOper := [⟨some 2, none, .boxi (.t 0)⟩,
  ⟨some 4, none, .mov (.str [])⟩,
  ⟨some 5, none, .mov (.int .i64 0)⟩]
@[simp] def c23_r1 : List AOper := [⟨some 9, none, .ldi 2 true (.t 2)⟩,
  ⟨some 10, none, .mov (.t 1)⟩,
  ⟨some 11, none, .call 53 [.t 9, .t 10] []⟩,
  ⟨some 8, none, .mov (.t 11)⟩,
  ⟨some 12, none, .ext (.t 8) 0⟩,
  ⟨some 13, none, .ext (.t 8) 1⟩,
  ⟨some 6, none, .alo 6 [.str [], .int .u64 0]⟩,
  ⟨none, none, .sto 6 2 (.t 6) (.t 12)⟩,
  ⟨some 7, none, .mov (.t 13)⟩]
@[simp] def c23_r2 : List AOper := [⟨some 14, none, .fld 0 (.t 6)⟩,
  ⟨some 15, none, .ldo 6 1 false (.t 14)⟩,
  ⟨some 16, none, .mov (.t 7)⟩,
  ⟨some 4, none, .mov (.t 15)⟩,
  ⟨some 5, none, .mov (.t 16)⟩]
@[simp] def c23 : AFn := ⟨17, [.tmp 4, .tmp 5], .seq (.ops c23_r0 false) (.seq (.ops c23_r1 false) (.seq (.ops c23_r2 false) (.ret)))⟩

/-- shackle shackleref01.SameInts -/
@[simp] def c24_r0 : List AOper := [⟨some 4, none, .mov (.bool false)⟩]
@[simp] def c24_r1 : List AOper := [⟨some 6, none, .mov (.t 0)⟩,
  ⟨some 7, none, .len (.t 6)⟩,
  ⟨some 8, none, .mov (.t 1)⟩,
  ⟨some 9, none, .len (.t 8)⟩,
  ⟨some 10, none, .bin .neq (.t 7) (.t 9)⟩]
@[simp] def c24_r2 : List AOper := [⟨some 4, none, .mov (.bool false)⟩]
@[simp] def c24_r3 : List AOper := [⟨some 5, none, .mov (.int .i64 0)⟩]
@[simp] def c24_r4 : List AOper := [⟨some 11, none, .mov (.t 5)⟩,
  ⟨some 12, none, .mov (.t 0)⟩,
  ⟨some 13, none, .len (.t 12)⟩,
  ⟨some 14, none, .bin .lss (.t 11) (.t 13)⟩]
@[simp] def c24_r6 : List AOper := [⟨some 17, none, .mov (.t 0)⟩,
  ⟨some 18, none, .mov (.t 5)⟩,
  ⟨some 19, none, .ixi 1 (.t 17) (.t 18)⟩,
  ⟨some 20, none, .ldi 1 false (.t 19)⟩,
  ⟨some 21, none, .mov (.t 1)⟩,
  ⟨some 22, none, .mov (.t 5)⟩,
  ⟨some 23, none, .ixi 1 (.t 21) (.t 22)⟩,
  ⟨some 24, none, .ldi 1 false (.t 23)⟩,
  ⟨some 25, none, .bin .neq (.t 20) (.t 24)⟩]
@[simp] def c24_r7 : List AOper := [⟨some 4, none, .mov (.bool false)⟩]
@[simp] def c24_r5 : List AOper := [⟨some 15, none, .mov (.t 5)⟩,
  ⟨some 16, none, .bin .add (.t 15) (.int .i64 1)⟩,
  ⟨some 5, none, .mov (.t 16)⟩]
def c24_b0 : AC := .seq (.seq (.ops c24_r4 false) (.cond (.t 14) (.skip) (.exit 0))) (.seq (.block 1 (.seq (.ops c24_r6 true) (.cond (.t 25) (.seq (.ops c24_r7 false) (.ret)) (.skip)))) (.ops c24_r5 false))
@[simp] def c24_r8 : List AOper := [⟨some 4, none, .mov (.bool true)⟩]
@[simp] def c24 : AFn := ⟨26, [.tmp 4], .seq (.ops c24_r0 false) (.seq (.seq (.ops c24_r1 false) (.cond (.t 10) (.seq (.ops c24_r2 false) (.ret)) (.skip))) (.seq (.seq (.ops c24_r3 false) (.block 0 (.loop c24_b0 [0, 1, 5] []))) (.seq (.ops c24_r8 false) (.ret))))⟩

/-- shackle shackleref13.Truths -/
@[simp] def c25_r0 : List AOper := [⟨some 1, none, .boxi (.t 0)⟩,
  ⟨some 2, none, .mov (.nil 1)⟩]
@[simp] def c25_r1 : List AOper := [⟨some 3, none, .nilo 3 3 1⟩]
@[simp] def c25_r2 : List AOper := [⟨some 4, none, .mov (.int .i64 0)⟩]
@[simp] def c25_r3 : List AOper := [⟨some 8, none, .mov (.t 4)⟩,
  ⟨some 9, none, .fld 1 (.t 1)⟩,
  ⟨some 10, none, .ldi 1 false (.t 9)⟩,
  ⟨some 11, none, .len (.t 10)⟩,
  ⟨some 12, none, .cvi .u64 (.t 11)⟩,
  ⟨some 13, none, .bin .shl (.int .i64 1) (.t 12)⟩,
  ⟨some 14, none, .bin .lss (.t 8) (.t 13)⟩]
@[simp] def c25_r5 : List AOper := [⟨some 5, none, .mov (.bool true)⟩]
@[simp] def c25_r6 : List AOper := [⟨some 6, none, .mov (.int .i64 0)⟩]
@[simp] def c25_r7 : List AOper := [⟨some 17, none, .mov (.t 6)⟩,
  ⟨some 18, none, .fld 1 (.t 1)⟩,
  ⟨some 19, none, .ldi 1 false (.t 18)⟩,
  ⟨some 20, none, .len (.t 19)⟩,
  ⟨some 21, none, .bin .lss (.t 17) (.t 20)⟩]
@[simp] def c25_r9 : List AOper := [⟨some 24, none, .mov (.t 4)⟩,
  ⟨some 25, none, .mov (.t 6)⟩,
  ⟨some 26, none, .cvi .u64 (.t 25)⟩,
  ⟨some 27, none, .bin .shr (.t 24) (.t 26)⟩,
  ⟨some 28, none, .bin .and (.t 27) (.int .i64 1)⟩,
  ⟨some 29, none, .bin .eql (.t 28) (.int .i64 1)⟩,
  ⟨some 7, none, .mov (.t 29)⟩]
@[simp] def c25_r10 : List AOper := [⟨some 30, none, .mov (.t 5)⟩,
  ⟨some 31, none, .mov (.t 30)⟩,
  ⟨some 32, (some (31, true)), .mov (.t 7)⟩,
  ⟨some 33, (some (31, true)), .not (.t 32)⟩,
  ⟨some 34, (some (31, true)), .mov (.t 33)⟩,
  ⟨some 35, (some (34, false)), .fld 1 (.t 1)⟩,
  ⟨some 36, (some (34, false)), .ldi 1 false (.t 35)⟩,
  ⟨some 37, (some (34, false)), .mov (.t 6)⟩,
  ⟨some 38, (some (34, false)), .ixi 1 (.t 36) (.t 37)⟩,
  ⟨some 39, (some (34, false)), .ldi 1 false (.t 38)⟩,
  ⟨some 40, (some (34, false)), .bin .neq (.t 39) (.int .i64 2)⟩,
  ⟨some 41, (some (31, true)), .pick (.t 34) (.bool true) (.t 40)⟩,
  ⟨some 42, none, .pick (.t 31) (.t 41) (.bool false)⟩,
  ⟨some 43, none, .mov (.t 42)⟩,
  ⟨some 44, (some (43, true)), .mov (.t 7)⟩,
  ⟨some 45, (some (43, true)), .mov (.t 44)⟩,
  ⟨some 46, (some (45, false)), .fld 1 (.t 1)⟩,
  ⟨some 47, (some (45, false)), .ldi 1 false (.t 46)⟩,
  ⟨some 48, (some (45, false)), .mov (.t 6)⟩,
  ⟨some 49, (some (45, false)), .ixi 1 (.t 47) (.t 48)⟩,
  ⟨some 50, (some (45, false)), .ldi 1 false (.t 49)⟩,
  ⟨some 51, (some (45, false)), .bin .neq (.t 50) (.int .i64 1)⟩,
  ⟨some 52, (some (43, true)), .pick (.t 45) (.bool true) (.t 51)⟩,
  ⟨some 53, none, .pick (.t 43) (.t 52) (.bool false)⟩,
  ⟨some 5, none, .mov (.t 53)⟩]
@[simp] def c25_r8 : List AOper := [⟨some 22, none, .mov (.t 6)⟩,
  ⟨some 23, none, .bin .add (.t 22) (.int .i64 1)⟩,
  ⟨some 6, none, .mov (.t 23)⟩]
def c25_b0 : AC := .seq (.seq (.ops c25_r7 false) (.cond (.t 21) (.skip) (.exit 2))) (.seq (.block 3 (.seq (.ops c25_r9 false) (.ops c25_r10 false))) (.ops c25_r8 false))
@[simp] def c25_r11 : List AOper := [⟨some 54, none, .mov (.t 5)⟩]
@[simp] def c25_r12 : List AOper := [⟨some 55, none, .mov (.t 3)⟩,
  ⟨some 56, none, .mov (.t 4)⟩,
  ⟨some 57, none, .bsl 1 [.t 56]⟩,
  ⟨some 58, none, .app 3 3 1 8 (.t 55) (.t 57)⟩,
  ⟨some 3, none, .mov (.t 58)⟩]
@[simp] def c25_r4 : List AOper := [⟨some 15, none, .mov (.t 4)⟩,
  ⟨some 16, none, .bin .add (.t 15) (.int .i64 1)⟩,
  ⟨some 4, none, .mov (.t 16)⟩]
def c25_b1 : AC := .seq (.seq (.ops c25_r3 false) (.cond (.t 14) (.skip) (.exit 0))) (.seq (.block 1 (.seq (.ops c25_r5 false) (.seq (.seq (.ops c25_r6 false) (.block 2 (.loop c25_b0 [1, 3, 4, 5, 6] [3]))) (.seq (.ops c25_r11 false) (.cond (.t 54) (.ops c25_r12 false) (.skip)))))) (.ops c25_r4 false))
@[simp] def c25_r13 : List AOper := [⟨some 59, none, .mov (.t 3)⟩,
  ⟨some 2, none, .mov (.t 59)⟩]
@[simp] def c25 : AFn := ⟨60, [.tmp 2], .seq (.ops c25_r0 false) (.seq (.ops c25_r1 false) (.seq (.seq (.ops c25_r2 false) (.block 0 (.loop c25_b1 [1, 3, 4] [3]))) (.seq (.ops c25_r13 false) (.ret))))⟩

/-- shackle papers.Count -/
@[simp] def c26_r0 : List AOper := [⟨some 2, none, .boxi (.t 0)⟩,
  ⟨some 4, none, .mov (.int .i64 0)⟩,
  ⟨some 5, none, .mov (.int .i64 0)⟩]
@[simp] def c26_r1 : List AOper := [⟨some 10, none, .ldi 2 true (.t 2)⟩,
  ⟨some 11, none, .mov (.t 1)⟩,
  ⟨some 12, none, .call 50 [.t 10, .t 11] []⟩,
  ⟨some 9, none, .mov (.t 12)⟩,
  ⟨some 13, none, .ext (.t 9) 0⟩,
  ⟨some 14, none, .ext (.t 9) 1⟩,
  ⟨some 15, none, .ext (.t 9) 2⟩,
  ⟨some 6, none, .mov (.t 13)⟩,
  ⟨some 7, none, .mov (.t 14)⟩,
  ⟨some 8, none, .mov (.t 15)⟩]
@[simp] def c26_r2 : List AOper := [⟨some 16, none, .mov (.t 8)⟩,
  ⟨some 17, none, .bin .neq (.t 16) (.int .i64 0)⟩]
@[simp] def c26_r3 : List AOper := [⟨some 18, none, .mov (.t 8)⟩,
  ⟨some 4, none, .mov (.int .i64 0)⟩,
  ⟨some 5, none, .mov (.t 18)⟩]
@[simp] def c26_r4 : List AOper := [⟨some 19, none, .mov (.t 6)⟩,
  ⟨some 20, none, .mov (.t 7)⟩,
  ⟨some 21, none, .call 54 [.t 19, .t 20] []⟩,
  ⟨some 4, none, .mov (.t 21)⟩,
  ⟨some 5, none, .mov (.int .i64 0)⟩]
@[simp] def c26 : AFn := ⟨22, [.tmp 4, .tmp 5], .seq (.ops c26_r0 false) (.seq (.ops c26_r1 false) (.seq (.seq (.ops c26_r2 false) (.cond (.t 17) (.seq (.ops c26_r3 false) (.ret)) (.skip))) (.seq (.ops c26_r4 false) (.ret))))⟩

/-- shackle shacklelaw13.Far -/
@[simp] def c27_r0 : List AOper := [⟨some 1, none, .boxi (.t 0)⟩,
  ⟨some 2, none, .mov (.bool false)⟩]
@[simp] def c27_r1 : List AOper := [⟨some 3, none, .fld 1 (.t 1)⟩,
  ⟨some 4, none, .ldi 1 false (.t 3)⟩,
  ⟨some 5, none, .len (.t 4)⟩,
  ⟨some 6, none, .bin .gtr (.t 5) (.int .i64 40)⟩,
  ⟨some 7, none, .mov (.t 6)⟩,
  ⟨some 8, (some (7, false)), .fld 0 (.t 1)⟩,
  ⟨some 9, (some (7, false)), .ldi 1 false (.t 8)⟩,
  ⟨some 10, (some (7, false)), .lst (.t 9)⟩,
  ⟨some 11, (some (7, false)), .bin .gtr (.t 10) (.int .i64 100)⟩,
  ⟨some 12, none, .pick (.t 7) (.bool true) (.t 11)⟩,
  ⟨some 13, none, .mov (.t 12)⟩,
  ⟨some 14, (some (13, false)), .fld 0 (.t 1)⟩,
  ⟨some 15, (some (13, false)), .ldi 1 false (.t 14)⟩,
  ⟨some 16, (some (13, false)), .call 18 [.t 15] []⟩,
  ⟨some 17, (some (13, false)), .len (.t 16)⟩,
  ⟨some 18, (some (13, false)), .bin .gtr (.t 17) (.int .i64 9)⟩,
  ⟨some 19, none, .pick (.t 13) (.bool true) (.t 18)⟩,
  ⟨some 2, none, .mov (.t 19)⟩]
@[simp] def c27 : AFn := ⟨20, [.tmp 2], .seq (.ops c27_r0 false) (.seq (.ops c27_r1 false) (.ret))⟩

/-- shackle papers.Means -/
@[simp] def c28_r0 : List AOper := [⟨some 2, none, .boxi (.t 0)⟩,
  ⟨some 4, none, .mov (.int .i64 0)⟩,
  ⟨some 5, none, .mov (.int .i64 0)⟩]
@[simp] def c28_r1 : List AOper := [⟨some 10, none, .ldi 2 true (.t 2)⟩,
  ⟨some 11, none, .mov (.t 1)⟩,
  ⟨some 12, none, .call 50 [.t 10, .t 11] []⟩,
  ⟨some 9, none, .mov (.t 12)⟩,
  ⟨some 13, none, .ext (.t 9) 0⟩,
  ⟨some 14, none, .ext (.t 9) 1⟩,
  ⟨some 15, none, .ext (.t 9) 2⟩,
  ⟨some 6, none, .mov (.t 13)⟩,
  ⟨some 7, none, .mov (.t 14)⟩,
  ⟨some 8, none, .mov (.t 15)⟩]
@[simp] def c28_r2 : List AOper := [⟨some 16, none, .mov (.t 8)⟩,
  ⟨some 17, none, .bin .neq (.t 16) (.int .i64 0)⟩]
@[simp] def c28_r3 : List AOper := [⟨some 18, none, .mov (.t 8)⟩,
  ⟨some 4, none, .mov (.int .i64 0)⟩,
  ⟨some 5, none, .mov (.t 18)⟩]
@[simp] def c28_r4 : List AOper := [⟨some 19, none, .mov (.t 6)⟩,
  ⟨some 20, none, .mov (.t 7)⟩,
  ⟨some 21, none, .call 55 [.t 19, .t 20] []⟩,
  ⟨some 4, none, .mov (.t 21)⟩,
  ⟨some 5, none, .mov (.int .i64 0)⟩]
@[simp] def c28 : AFn := ⟨22, [.tmp 4, .tmp 5], .seq (.ops c28_r0 false) (.seq (.ops c28_r1 false) (.seq (.seq (.ops c28_r2 false) (.cond (.t 17) (.seq (.ops c28_r3 false) (.ret)) (.skip))) (.seq (.ops c28_r4 false) (.ret))))⟩

/-- shackle shackleref13.Means -/
@[simp] def c29_r0 : List AOper := [⟨some 2, none, .boxi (.t 0)⟩,
  ⟨some 4, none, .mov (.int .i64 0)⟩,
  ⟨some 5, none, .mov (.int .i64 0)⟩]
@[simp] def c29_r1 : List AOper := [⟨some 9, none, .ldi 2 true (.t 2)⟩,
  ⟨some 10, none, .mov (.t 1)⟩,
  ⟨some 11, none, .call 53 [.t 9, .t 10] []⟩,
  ⟨some 8, none, .mov (.t 11)⟩,
  ⟨some 12, none, .ext (.t 8) 0⟩,
  ⟨some 13, none, .ext (.t 8) 1⟩,
  ⟨some 6, none, .alo 6 [.str [], .int .u64 0]⟩,
  ⟨none, none, .sto 6 2 (.t 6) (.t 12)⟩,
  ⟨some 7, none, .mov (.t 13)⟩]
@[simp] def c29_r2 : List AOper := [⟨some 14, none, .mov (.t 7)⟩,
  ⟨some 15, none, .bin .neq (.t 14) (.int .i64 0)⟩]
@[simp] def c29_r3 : List AOper := [⟨some 16, none, .mov (.t 7)⟩,
  ⟨some 4, none, .mov (.int .i64 0)⟩,
  ⟨some 5, none, .mov (.t 16)⟩]
@[simp] def c29_r4 : List AOper := [⟨some 17, none, .ldi 2 true (.t 2)⟩,
  ⟨some 18, none, .ldo 6 2 true (.t 6)⟩,
  ⟨some 19, none, .call 57 [.t 17, .t 18] []⟩,
  ⟨some 20, none, .ldi 2 true (.t 2)⟩,
  ⟨some 21, none, .call 25 [.t 20] []⟩,
  ⟨some 22, none, .len (.t 21)⟩,
  ⟨some 23, none, .call 56 [.t 19, .t 22] []⟩,
  ⟨some 4, none, .mov (.t 23)⟩,
  ⟨some 5, none, .mov (.int .i64 0)⟩]
@[simp] def c29 : AFn := ⟨24, [.tmp 4, .tmp 5], .seq (.ops c29_r0 false) (.seq (.ops c29_r1 false) (.seq (.seq (.ops c29_r2 false) (.cond (.t 15) (.seq (.ops c29_r3 false) (.ret)) (.skip))) (.seq (.ops c29_r4 true) (.ret))))⟩

/-- shackle shackleref13.Count -/
@[simp] def c30_r0 : List AOper := [⟨some 2, none, .boxi (.t 0)⟩,
  ⟨some 4, none, .mov (.int .i64 0)⟩,
  ⟨some 5, none, .mov (.int .i64 0)⟩]
@[simp] def c30_r1 : List AOper := [⟨some 9, none, .ldi 2 true (.t 2)⟩,
  ⟨some 10, none, .mov (.t 1)⟩,
  ⟨some 11, none, .call 53 [.t 9, .t 10] []⟩,
  ⟨some 8, none, .mov (.t 11)⟩,
  ⟨some 12, none, .ext (.t 8) 0⟩,
  ⟨some 13, none, .ext (.t 8) 1⟩,
  ⟨some 6, none, .alo 6 [.str [], .int .u64 0]⟩,
  ⟨none, none, .sto 6 2 (.t 6) (.t 12)⟩,
  ⟨some 7, none, .mov (.t 13)⟩]
@[simp] def c30_r2 : List AOper := [⟨some 14, none, .mov (.t 7)⟩,
  ⟨some 15, none, .bin .neq (.t 14) (.int .i64 0)⟩]
@[simp] def c30_r3 : List AOper := [⟨some 16, none, .mov (.t 7)⟩,
  ⟨some 4, none, .mov (.int .i64 0)⟩,
  ⟨some 5, none, .mov (.t 16)⟩]
@[simp] def c30_r4 : List AOper := [⟨some 17, none, .ldi 2 true (.t 2)⟩,
  ⟨some 18, none, .ldo 6 2 true (.t 6)⟩,
  ⟨some 19, none, .call 57 [.t 17, .t 18] []⟩,
  ⟨some 4, none, .mov (.t 19)⟩,
  ⟨some 5, none, .mov (.int .i64 0)⟩]
@[simp] def c30 : AFn := ⟨20, [.tmp 4, .tmp 5], .seq (.ops c30_r0 false) (.seq (.ops c30_r1 false) (.seq (.seq (.ops c30_r2 false) (.cond (.t 15) (.seq (.ops c30_r3 false) (.ret)) (.skip))) (.seq (.ops c30_r4 false) (.ret))))⟩

/-- shackle papers.Strict -/
@[simp] def c31_r0 : List AOper := [⟨some 1, none, .boxi (.t 0)⟩,
  ⟨some 2, none, .mov (.int .i64 0)⟩,
  ⟨some 3, none, .mov (.int .i64 0)⟩]
@[simp] def c31_r1 : List AOper := [⟨some 10, none, .ldi 2 true (.t 1)⟩,
  ⟨some 11, none, .call 52 [.t 10] []⟩,
  ⟨some 9, none, .mov (.t 11)⟩,
  ⟨some 12, none, .ext (.t 9) 0⟩,
  ⟨some 13, none, .ext (.t 9) 1⟩,
  ⟨some 4, none, .mov (.t 12)⟩,
  ⟨some 5, none, .mov (.t 13)⟩]
@[simp] def c31_r2 : List AOper := [⟨some 14, none, .mov (.t 5)⟩,
  ⟨some 15, none, .bin .neq (.t 14) (.int .i64 0)⟩]
@[simp] def c31_r3 : List AOper := [⟨some 16, none, .mov (.t 5)⟩,
  ⟨some 2, none, .mov (.int .i64 0)⟩,
  ⟨some 3, none, .mov (.t 16)⟩]
@[simp] def c31_r4 : List AOper := [⟨some 6, none, .mov (.int .i64 0)⟩]
@[simp] def c31_r5 : List AOper := [⟨some 17, none, .mov (.t 4)⟩,
  ⟨some 18, none, .nilc (.t 17)⟩,
  ⟨some 19, none, .fld 0 (.t 18)⟩,
  ⟨some 20, none, .ldi 1 false (.t 19)⟩,
  ⟨some 21, none, .len (.t 20)⟩,
  ⟨some 22, none, .mov (.int .i64 0)⟩]
@[simp] def c31_r6 : List AOper := [⟨some 23, none, .bin .lss (.t 22) (.t 21)⟩]
@[simp] def c31_r7 : List AOper := [⟨some 24, none, .mov (.t 22)⟩,
  ⟨some 25, none, .ixi 1 (.t 20) (.t 22)⟩,
  ⟨some 26, none, .ldi 1 false (.t 25)⟩,
  ⟨some 7, none, .mov (.t 24)⟩,
  ⟨some 8, none, .mov (.t 26)⟩]
@[simp] def c31_r8 : List AOper := [⟨some 27, none, .mov (.t 4)⟩,
  ⟨some 28, none, .mov (.t 8)⟩,
  ⟨some 29, none, .call 54 [.t 27, .t 28] []⟩,
  ⟨some 30, none, .mov (.t 4)⟩,
  ⟨some 31, none, .mov (.t 4)⟩,
  ⟨some 32, none, .nilc (.t 31)⟩,
  ⟨some 33, none, .fld 0 (.t 32)⟩,
  ⟨some 34, none, .ldi 1 false (.t 33)⟩,
  ⟨some 35, none, .mov (.t 6)⟩,
  ⟨some 36, none, .ixi 1 (.t 34) (.t 35)⟩,
  ⟨some 37, none, .ldi 1 false (.t 36)⟩,
  ⟨some 38, none, .call 54 [.t 30, .t 37] []⟩,
  ⟨some 39, none, .bin .lss (.t 29) (.t 38)⟩]
@[simp] def c31_r9 : List AOper := [⟨some 40, none, .mov (.t 7)⟩,
  ⟨some 6, none, .mov (.t 40)⟩]
@[simp] def c31_r10 : List AOper := [⟨some 41, none, .bin .add (.t 22) (.int .i64 1)⟩,
  ⟨some 22, none, .mov (.t 41)⟩]
def c31_b0 : AC := .seq (.ops c31_r6 false) (.seq (.cond (.t 23) (.skip) (.exit 0)) (.seq (.block 1 (.seq (.ops c31_r7 false) (.seq (.ops c31_r8 true) (.cond (.t 39) (.ops c31_r9 false) (.skip))))) (.ops c31_r10 false)))
@[simp] def c31_r11 : List AOper := [⟨some 42, none, .mov (.t 6)⟩,
  ⟨some 2, none, .mov (.t 42)⟩,
  ⟨some 3, none, .mov (.int .i64 0)⟩]
@[simp] def c31 : AFn := ⟨43, [.tmp 2, .tmp 3], .seq (.ops c31_r0 false) (.seq (.ops c31_r1 false) (.seq (.seq (.ops c31_r2 false) (.cond (.t 15) (.seq (.ops c31_r3 false) (.ret)) (.skip))) (.seq (.ops c31_r4 false) (.seq (.seq (.ops c31_r5 false) (.block 0 (.loop c31_b0 [4, 6, 20, 21, 22] []))) (.seq (.ops c31_r11 false) (.ret))))))⟩

/-- shackle shackleref13.Strict -/
@[simp] def c32_r0 : List AOper := [⟨some 1, none, .boxi (.t 0)⟩,
  ⟨some 2, none, .mov (.int .i64 0)⟩,
  ⟨some 3, none, .mov (.int .i64 0)⟩]
@[simp] def c32_r1 : List AOper := [⟨some 9, none, .ldi 2 true (.t 1)⟩,
  ⟨some 10, none, .call 33 [.t 9] []⟩,
  ⟨some 8, none, .mov (.t 10)⟩,
  ⟨some 11, none, .ext (.t 8) 0⟩,
  ⟨some 12, none, .ext (.t 8) 1⟩,
  ⟨some 4, none, .mov (.t 11)⟩,
  ⟨some 5, none, .mov (.t 12)⟩]
@[simp] def c32_r2 : List AOper := [⟨some 6, none, .mov (.int .i64 0)⟩]
@[simp] def c32_r3 : List AOper := [⟨some 7, none, .mov (.int .i64 0)⟩]
@[simp] def c32_r4 : List AOper := [⟨some 13, none, .mov (.t 7)⟩,
  ⟨some 14, none, .mov (.t 4)⟩,
  ⟨some 15, none, .len (.t 14)⟩,
  ⟨some 16, none, .bin .lss (.t 13) (.t 15)⟩]
@[simp] def c32_r6 : List AOper := [⟨some 19, none, .ldi 2 true (.t 1)⟩,
  ⟨some 20, none, .mov (.t 4)⟩,
  ⟨some 21, none, .mov (.t 7)⟩,
  ⟨some 22, none, .ixi 2 (.t 20) (.t 21)⟩,
  ⟨some 23, none, .ldi 2 true (.t 22)⟩,
  ⟨some 24, none, .call 57 [.t 19, .t 23] []⟩,
  ⟨some 25, none, .ldi 2 true (.t 1)⟩,
  ⟨some 26, none, .mov (.t 4)⟩,
  ⟨some 27, none, .mov (.t 6)⟩,
  ⟨some 28, none, .ixi 2 (.t 26) (.t 27)⟩,
  ⟨some 29, none, .ldi 2 true (.t 28)⟩,
  ⟨some 30, none, .call 57 [.t 25, .t 29] []⟩,
  ⟨some 31, none, .bin .lss (.t 24) (.t 30)⟩]
@[simp] def c32_r7 : List AOper := [⟨some 32, none, .mov (.t 7)⟩,
  ⟨some 6, none, .mov (.t 32)⟩]
@[simp] def c32_r5 : List AOper := [⟨some 17, none, .mov (.t 7)⟩,
  ⟨some 18, none, .bin .add (.t 17) (.int .i64 1)⟩,
  ⟨some 7, none, .mov (.t 18)⟩]
def c32_b0 : AC := .seq (.seq (.ops c32_r4 false) (.cond (.t 16) (.skip) (.exit 0))) (.seq (.block 1 (.seq (.ops c32_r6 true) (.cond (.t 31) (.ops c32_r7 false) (.skip)))) (.ops c32_r5 false))
@[simp] def c32_r8 : List AOper := [⟨some 33, none, .mov (.t 6)⟩,
  ⟨some 34, none, .mov (.t 5)⟩,
  ⟨some 2, none, .mov (.t 33)⟩,
  ⟨some 3, none, .mov (.t 34)⟩]
@[simp] def c32 : AFn := ⟨35, [.tmp 2, .tmp 3], .seq (.ops c32_r0 false) (.seq (.ops c32_r1 false) (.seq (.ops c32_r2 false) (.seq (.seq (.ops c32_r3 false) (.block 0 (.loop c32_b0 [1, 4, 5, 6, 7] []))) (.seq (.ops c32_r8 false) (.ret)))))⟩

/-- shackle shackleref13.All -/
@[simp] def c33_r0 : List AOper := [⟨some 1, none, .boxi (.t 0)⟩,
  ⟨some 2, none, .mov (.nil 2)⟩,
  ⟨some 3, none, .mov (.int .i64 0)⟩]
@[simp] def c33_r1 : List AOper := [⟨some 6, none, .ldi 2 true (.t 1)⟩,
  ⟨some 7, none, .call 58 [.t 6] []⟩,
  ⟨some 8, none, .not (.t 7)⟩]
@[simp] def c33_r2 : List AOper := [⟨some 2, none, .mov (.nil 2)⟩,
  ⟨some 3, none, .mov (.int .i64 130)⟩]
@[simp] def c33_r3 : List AOper := [⟨some 9, none, .fld 0 (.t 1)⟩,
  ⟨some 10, none, .ldi 1 false (.t 9)⟩,
  ⟨some 11, none, .lst (.t 10)⟩,
  ⟨some 12, none, .bin .gtr (.t 11) (.int .i64 100)⟩]
@[simp] def c33_r4 : List AOper := [⟨some 2, none, .mov (.nil 2)⟩,
  ⟨some 3, none, .mov (.int .i64 131)⟩]
@[simp] def c33_r5 : List AOper := [⟨some 13, none, .fld 0 (.t 1)⟩,
  ⟨some 14, none, .ldi 1 false (.t 13)⟩,
  ⟨some 15, none, .call 18 [.t 14] []⟩,
  ⟨some 4, none, .mov (.t 15)⟩]
@[simp] def c33_r6 : List AOper := [⟨some 16, none, .mov (.t 4)⟩,
  ⟨some 17, none, .len (.t 16)⟩,
  ⟨some 18, none, .bin .gtr (.t 17) (.int .i64 11)⟩]
@[simp] def c33_r7 : List AOper := [⟨some 2, none, .mov (.nil 2)⟩,
  ⟨some 3, none, .mov (.int .i64 131)⟩]
@[simp] def c33_r8 : List AOper := [⟨some 19, none, .mov (.t 4)⟩,
  ⟨some 20, none, .fld 1 (.t 1)⟩,
  ⟨some 21, none, .ldi 1 false (.t 20)⟩,
  ⟨some 22, none, .len (.t 21)⟩,
  ⟨some 23, none, .call 59 [.t 19, .t 22] []⟩,
  ⟨some 5, none, .mov (.t 23)⟩]
@[simp] def c33_r9 : List AOper := [⟨some 24, none, .mov (.t 5)⟩,
  ⟨some 25, none, .len (.t 24)⟩,
  ⟨some 26, none, .bin .eql (.t 25) (.int .i64 0)⟩]
@[simp] def c33_r10 : List AOper := [⟨some 2, none, .mov (.nil 2)⟩,
  ⟨some 3, none, .mov (.int .i64 131)⟩]
@[simp] def c33_r11 : List AOper := [⟨some 27, none, .mov (.t 5)⟩,
  ⟨some 2, none, .mov (.t 27)⟩,
  ⟨some 3, none, .mov (.int .i64 0)⟩]
@[simp] def c33 : AFn := ⟨28, [.tmp 2, .tmp 3], .seq (.ops c33_r0 false) (.seq (.seq (.ops c33_r1 false) (.cond (.t 8) (.seq (.ops c33_r2 false) (.ret)) (.skip))) (.seq (.seq (.ops c33_r3 false) (.cond (.t 12) (.seq (.ops c33_r4 false) (.ret)) (.skip))) (.seq (.ops c33_r5 false) (.seq (.seq (.ops c33_r6 false) (.cond (.t 18) (.seq (.ops c33_r7 false) (.ret)) (.skip))) (.seq (.ops c33_r8 false) (.seq (.seq (.ops c33_r9 false) (.cond (.t 26) (.seq (.ops c33_r10 false) (.ret)) (.skip))) (.seq (.ops c33_r11 false) (.ret))))))))⟩

/-- shackle shackleref13.Number -/
@[simp] def c34_r0 : List AOper := [⟨some 2, none, .boxi (.t 0)⟩,
  ⟨some 4, none, .mov (.int .i64 0)⟩,
  ⟨some 5, none, .mov (.bool false)⟩]
@[simp] def c34_r1 : List AOper := [⟨some 8, none, .mov (.t 1)⟩,
  ⟨some 9, none, .len (.t 8)⟩,
  ⟨some 10, none, .fld 1 (.t 2)⟩,
  ⟨some 11, none, .ldi 1 false (.t 10)⟩,
  ⟨some 12, none, .len (.t 11)⟩,
  ⟨some 13, none, .bin .neq (.t 9) (.t 12)⟩]
@[simp] def c34_r2 : List AOper := [⟨some 4, none, .mov (.int .i64 0)⟩,
  ⟨some 5, none, .mov (.bool false)⟩]
@[simp] def c34_r3 : List AOper := [⟨some 6, none, .mov (.int .i64 0)⟩]
@[simp] def c34_r4 : List AOper := [⟨some 7, none, .mov (.int .i64 0)⟩]
@[simp] def c34_r5 : List AOper := [⟨some 14, none, .mov (.t 7)⟩,
  ⟨some 15, none, .mov (.t 1)⟩,
  ⟨some 16, none, .len (.t 15)⟩,
  ⟨some 17, none, .bin .lss (.t 14) (.t 16)⟩]
@[simp] def c34_r7 : List AOper := [⟨some 20, none, .mov (.t 1)⟩,
  ⟨some 21, none, .mov (.t 7)⟩,
  ⟨some 22, none, .ixi 1 (.t 20) (.t 21)⟩,
  ⟨some 23, none, .ldi 1 false (.t 22)⟩,
  ⟨some 24, none, .call 42 [.t 23, .int .i64 0, .int .i64 1] []⟩,
  ⟨some 25, none, .not (.t 24)⟩]
@[simp] def c34_r8 : List AOper := [⟨some 4, none, .mov (.int .i64 0)⟩,
  ⟨some 5, none, .mov (.bool false)⟩]
@[simp] def c34_r9 : List AOper := [⟨some 26, none, .mov (.t 6)⟩,
  ⟨some 27, none, .mov (.t 1)⟩,
  ⟨some 28, none, .mov (.t 7)⟩,
  ⟨some 29, none, .ixi 1 (.t 27) (.t 28)⟩,
  ⟨some 30, none, .ldi 1 false (.t 29)⟩,
  ⟨some 31, none, .mov (.t 7)⟩,
  ⟨some 32, none, .cvi .u64 (.t 31)⟩,
  ⟨some 33, none, .bin .shl (.t 30) (.t 32)⟩,
  ⟨some 34, none, .bin .add (.t 26) (.t 33)⟩,
  ⟨some 6, none, .mov (.t 34)⟩]
@[simp] def c34_r6 : List AOper := [⟨some 18, none, .mov (.t 7)⟩,
  ⟨some 19, none, .bin .add (.t 18) (.int .i64 1)⟩,
  ⟨some 7, none, .mov (.t 19)⟩]
def c34_b0 : AC := .seq (.seq (.ops c34_r5 false) (.cond (.t 17) (.skip) (.exit 0))) (.seq (.block 1 (.seq (.seq (.ops c34_r7 false) (.cond (.t 25) (.seq (.ops c34_r8 false) (.ret)) (.skip))) (.ops c34_r9 false))) (.ops c34_r6 false))
@[simp] def c34_r10 : List AOper := [⟨some 35, none, .mov (.t 6)⟩,
  ⟨some 36, none, .ldi 2 true (.t 2)⟩,
  ⟨some 37, none, .call 25 [.t 36] []⟩,
  ⟨some 38, none, .mov (.t 6)⟩,
  ⟨some 39, none, .call 60 [.t 37, .t 38] []⟩,
  ⟨some 4, none, .mov (.t 35)⟩,
  ⟨some 5, none, .mov (.t 39)⟩]
@[simp] def c34 : AFn := ⟨40, [.tmp 4, .tmp 5], .seq (.ops c34_r0 false) (.seq (.seq (.ops c34_r1 false) (.cond (.t 13) (.seq (.ops c34_r2 false) (.ret)) (.skip))) (.seq (.ops c34_r3 false) (.seq (.seq (.ops c34_r4 false) (.block 0 (.loop c34_b0 [1, 2, 6, 7] []))) (.seq (.ops c34_r10 false) (.ret)))))⟩

/-- shackle papers.Court -/
@[simp] def c35_r0 : List AOper := [⟨some 1, none, .boxi (.t 0)⟩,
  ⟨some 2, none, .mov (.int .i64 0)⟩,
  ⟨some 3, none, .mov (.int .i64 0)⟩]
@[simp] def c35_r1 : List AOper := [⟨some 10, none, .ldi 2 true (.t 1)⟩,
  ⟨some 11, none, .call 52 [.t 10] []⟩,
  ⟨some 9, none, .mov (.t 11)⟩,
  ⟨some 12, none, .ext (.t 9) 0⟩,
  ⟨some 13, none, .ext (.t 9) 1⟩,
  ⟨some 4, none, .mov (.t 12)⟩,
  ⟨some 5, none, .mov (.t 13)⟩]
@[simp] def c35_r2 : List AOper := [⟨some 14, none, .mov (.t 5)⟩,
  ⟨some 15, none, .bin .neq (.t 14) (.int .i64 0)⟩]
@[simp] def c35_r3 : List AOper := [⟨some 16, none, .mov (.t 5)⟩,
  ⟨some 2, none, .mov (.int .i64 0)⟩,
  ⟨some 3, none, .mov (.t 16)⟩]
@[simp] def c35_r4 : List AOper := [⟨some 17, none, .mov (.t 4)⟩,
  ⟨some 18, none, .mov (.t 4)⟩,
  ⟨some 19, none, .nilc (.t 18)⟩,
  ⟨some 20, none, .fld 0 (.t 19)⟩,
  ⟨some 21, none, .ldi 1 false (.t 20)⟩,
  ⟨some 22, none, .ixi 1 (.t 21) (.int .i64 0)⟩,
  ⟨some 23, none, .ldi 1 false (.t 22)⟩,
  ⟨some 24, none, .call 55 [.t 17, .t 23] []⟩,
  ⟨some 6, none, .mov (.t 24)⟩]
@[simp] def c35_r5 : List AOper := [⟨some 25, none, .mov (.t 4)⟩,
  ⟨some 26, none, .nilc (.t 25)⟩,
  ⟨some 27, none, .fld 0 (.t 26)⟩,
  ⟨some 28, none, .ldi 1 false (.t 27)⟩,
  ⟨some 29, none, .len (.t 28)⟩,
  ⟨some 30, none, .mov (.int .i64 0)⟩]
@[simp] def c35_r6 : List AOper := [⟨some 31, none, .bin .lss (.t 30) (.t 29)⟩]
@[simp] def c35_r7 : List AOper := [⟨some 32, none, .ixi 1 (.t 28) (.t 30)⟩,
  ⟨some 33, none, .ldi 1 false (.t 32)⟩,
  ⟨some 8, none, .mov (.t 33)⟩]
@[simp] def c35_r8 : List AOper := [⟨some 34, none, .mov (.t 4)⟩,
  ⟨some 35, none, .mov (.t 8)⟩,
  ⟨some 36, none, .call 55 [.t 34, .t 35] []⟩,
  ⟨some 37, none, .mov (.t 6)⟩,
  ⟨some 38, none, .bin .neq (.t 36) (.t 37)⟩]
@[simp] def c35_r9 : List AOper := [⟨some 2, none, .mov (.int .i64 3)⟩,
  ⟨some 3, none, .mov (.int .i64 0)⟩]
@[simp] def c35_r10 : List AOper := [⟨some 39, none, .bin .add (.t 30) (.int .i64 1)⟩,
  ⟨some 30, none, .mov (.t 39)⟩]
def c35_b0 : AC := .seq (.ops c35_r6 false) (.seq (.cond (.t 31) (.skip) (.exit 0)) (.seq (.block 1 (.seq (.ops c35_r7 false) (.seq (.ops c35_r8 false) (.cond (.t 38) (.seq (.ops c35_r9 false) (.ret)) (.skip))))) (.ops c35_r10 false)))
@[simp] def c35_r11 : List AOper := [⟨some 40, none, .mov (.t 6)⟩,
  ⟨some 2, none, .mov (.t 40)⟩,
  ⟨some 3, none, .mov (.int .i64 0)⟩]
@[simp] def c35 : AFn := ⟨41, [.tmp 2, .tmp 3], .seq (.ops c35_r0 false) (.seq (.ops c35_r1 false) (.seq (.seq (.ops c35_r2 false) (.cond (.t 15) (.seq (.ops c35_r3 false) (.ret)) (.skip))) (.seq (.ops c35_r4 false) (.seq (.seq (.ops c35_r5 false) (.block 0 (.loop c35_b0 [4, 6, 28, 29, 30] []))) (.seq (.ops c35_r11 false) (.ret))))))⟩

/-- shackle shacklelaw13.isKnown -/
@[simp] def c36_r0 : List AOper := [⟨some 2, none, .mov (.bool false)⟩]
@[simp] def c36_r1 : List AOper := [⟨some 3, none, .mov (.t 0)⟩,
  ⟨some 4, none, .bin .geq (.t 3) (.int .i64 1)⟩,
  ⟨some 5, none, .mov (.t 4)⟩,
  ⟨some 6, (some (5, true)), .mov (.t 0)⟩,
  ⟨some 7, (some (5, true)), .bin .leq (.t 6) (.int .i64 3)⟩,
  ⟨some 8, none, .pick (.t 5) (.t 7) (.bool false)⟩,
  ⟨some 2, none, .mov (.t 8)⟩]
@[simp] def c36 : AFn := ⟨9, [.tmp 2], .seq (.ops c36_r0 false) (.seq (.ops c36_r1 false) (.ret))⟩

/-- shackle shackleref01.Agrees -/
@[simp] def c37_r0 : List AOper := [⟨some 4, none, .mov (.bool false)⟩]
@[simp] def c37_r1 : List AOper := [⟨some 5, none, .mov (.t 0)⟩]
@[simp] def c37_r2 : List AOper := [⟨some 7, none, .bin .eql (.t 5) (.int .i64 1)⟩,
  ⟨some 6, none, .mov (.t 7)⟩]
@[simp] def c37_r3 : List AOper := [⟨some 8, none, .mov (.t 1)⟩,
  ⟨some 4, none, .mov (.t 8)⟩]
@[simp] def c37_r4 : List AOper := [⟨some 10, none, .bin .eql (.t 5) (.int .i64 2)⟩,
  ⟨some 9, none, .mov (.t 10)⟩]
@[simp] def c37_r5 : List AOper := [⟨some 11, none, .mov (.t 1)⟩,
  ⟨some 12, none, .not (.t 11)⟩,
  ⟨some 4, none, .mov (.t 12)⟩]
@[simp] def c37_r6 : List AOper := [⟨some 13, none, .mov (.t 0)⟩,
  ⟨some 14, none, .bin .eql (.t 13) (.int .i64 3)⟩,
  ⟨some 4, none, .mov (.t 14)⟩]
@[simp] def c37 : AFn := ⟨15, [.tmp 4], .seq (.ops c37_r0 false) (.seq (.seq (.ops c37_r1 false) (.block 0 (.seq (.ops c37_r2 false) (.cond (.t 6) (.seq (.ops c37_r3 false) (.ret)) (.seq (.ops c37_r4 false) (.cond (.t 9) (.seq (.ops c37_r5 false) (.ret)) (.skip))))))) (.seq (.ops c37_r6 false) (.ret)))⟩

/-- shackle shackleref13.IsTrue -/
@[simp] def c38_r0 : List AOper := [⟨some 2, none, .boxi (.t 0)⟩,
  ⟨some 4, none, .mov (.bool false)⟩]
@[simp] def c38_r1 : List AOper := [⟨some 5, none, .fld 1 (.t 2)⟩,
  ⟨some 6, none, .ldi 1 false (.t 5)⟩,
  ⟨some 7, none, .mov (.t 1)⟩,
  ⟨some 8, none, .cvi .u64 (.t 7)⟩,
  ⟨some 9, none, .bin .shr (.t 6) (.t 8)⟩,
  ⟨some 10, none, .bin .and (.t 9) (.int .u64 1)⟩,
  ⟨some 11, none, .bin .eql (.t 10) (.int .u64 1)⟩,
  ⟨some 4, none, .mov (.t 11)⟩]
@[simp] def c38 : AFn := ⟨12, [.tmp 4], .seq (.ops c38_r0 false) (.seq (.ops c38_r1 false) (.ret))⟩

/-- shackle papers.Clear -/
@[simp] def c39_r0 : List AOper := [⟨some 1, none, .boxi (.t 0)⟩,
  ⟨some 2, none, .mov (.bool false)⟩,
  ⟨some 3, none, .mov (.int .i64 0)⟩]
@[simp] def c39_r1 : List AOper := [⟨some 7, none, .ldi 2 true (.t 1)⟩,
  ⟨some 8, none, .call 41 [.t 7] []⟩,
  ⟨some 6, none, .mov (.t 8)⟩,
  ⟨some 9, none, .ext (.t 6) 0⟩,
  ⟨some 10, none, .ext (.t 6) 1⟩,
  ⟨some 4, none, .mov (.t 9)⟩,
  ⟨some 5, none, .mov (.t 10)⟩]
@[simp] def c39_r2 : List AOper := [⟨some 11, none, .mov (.t 5)⟩]
@[simp] def c39_r3 : List AOper := [⟨some 13, none, .bin .eql (.t 11) (.int .i64 0)⟩,
  ⟨some 12, none, .mov (.t 13)⟩]
@[simp] def c39_r4 : List AOper := [⟨some 2, none, .mov (.bool false)⟩,
  ⟨some 3, none, .mov (.int .i64 0)⟩]
@[simp] def c39_r5 : List AOper := [⟨some 15, none, .bin .eql (.t 11) (.int .i64 3)⟩,
  ⟨some 14, none, .mov (.t 15)⟩]
@[simp] def c39_r6 : List AOper := [⟨some 2, none, .mov (.bool true)⟩,
  ⟨some 3, none, .mov (.int .i64 0)⟩]
@[simp] def c39_r7 : List AOper := [⟨some 16, none, .mov (.t 5)⟩,
  ⟨some 2, none, .mov (.bool false)⟩,
  ⟨some 3, none, .mov (.t 16)⟩]
@[simp] def c39 : AFn := ⟨17, [.tmp 2, .tmp 3], .seq (.ops c39_r0 false) (.seq (.ops c39_r1 false) (.seq (.seq (.ops c39_r2 false) (.block 0 (.seq (.ops c39_r3 false) (.cond (.t 12) (.seq (.ops c39_r4 false) (.ret)) (.seq (.ops c39_r5 false) (.cond (.t 14) (.seq (.ops c39_r6 false) (.ret)) (.skip))))))) (.seq (.ops c39_r7 false) (.ret))))⟩

/-- shackle papers.Matters -/
@[simp] def c40_r0 : List AOper := [⟨some 1, none, .boxi (.t 0)⟩,
  ⟨some 2, none, .mov (.nil 1)⟩,
  ⟨some 3, none, .mov (.int .i64 0)⟩]
@[simp] def c40_r1 : List AOper := [⟨some 14, none, .ldi 2 true (.t 1)⟩,
  ⟨some 15, none, .call 52 [.t 14] []⟩,
  ⟨some 13, none, .mov (.t 15)⟩,
  ⟨some 16, none, .ext (.t 13) 0⟩,
  ⟨some 17, none, .ext (.t 13) 1⟩,
  ⟨some 4, none, .mov (.t 16)⟩,
  ⟨some 5, none, .mov (.t 17)⟩]
@[simp] def c40_r2 : List AOper := [⟨some 18, none, .mov (.t 5)⟩,
  ⟨some 19, none, .bin .neq (.t 18) (.int .i64 0)⟩]
@[simp] def c40_r3 : List AOper := [⟨some 20, none, .mov (.t 5)⟩,
  ⟨some 2, none, .mov (.nil 1)⟩,
  ⟨some 3, none, .mov (.t 20)⟩]
@[simp] def c40_r4 : List AOper := [⟨some 6, none, .nilo 6 3 1⟩]
@[simp] def c40_r5 : List AOper := [⟨some 21, none, .fld 1 (.t 1)⟩,
  ⟨some 22, none, .ldi 1 false (.t 21)⟩,
  ⟨some 23, none, .len (.t 22)⟩,
  ⟨some 24, none, .mov (.int .i64 0)⟩]
@[simp] def c40_r6 : List AOper := [⟨some 25, none, .bin .lss (.t 24) (.t 23)⟩]
@[simp] def c40_r7 : List AOper := [⟨some 26, none, .mov (.t 24)⟩,
  ⟨some 27, none, .ixi 1 (.t 22) (.t 24)⟩,
  ⟨some 28, none, .ldi 1 false (.t 27)⟩,
  ⟨some 7, none, .mov (.t 26)⟩,
  ⟨some 8, none, .mov (.t 28)⟩]
@[simp] def c40_r8 : List AOper := [⟨some 29, none, .mov (.t 8)⟩,
  ⟨some 30, none, .bin .neq (.t 29) (.int .i64 3)⟩]
@[simp] def c40_r9 : List AOper := [⟨some 31, none, .mov (.t 4)⟩,
  ⟨some 32, none, .nilc (.t 31)⟩,
  ⟨some 33, none, .fld 1 (.t 32)⟩,
  ⟨some 34, none, .ldi 1 false (.t 33)⟩,
  ⟨some 35, none, .len (.t 34)⟩,
  ⟨some 36, none, .mov (.int .i64 0)⟩]
@[simp] def c40_r10 : List AOper := [⟨some 37, none, .bin .lss (.t 36) (.t 35)⟩]
@[simp] def c40_r11 : List AOper := [⟨some 38, none, .ixi 1 (.t 34) (.t 36)⟩,
  ⟨some 39, none, .ldi 1 false (.t 38)⟩,
  ⟨some 10, none, .mov (.t 39)⟩]
@[simp] def c40_r12 : List AOper := [⟨some 40, none, .mov (.t 4)⟩,
  ⟨some 41, none, .nilc (.t 40)⟩,
  ⟨some 42, none, .fld 0 (.t 41)⟩,
  ⟨some 43, none, .ldi 1 false (.t 42)⟩,
  ⟨some 44, none, .len (.t 43)⟩,
  ⟨some 45, none, .mov (.int .i64 0)⟩]
@[simp] def c40_r13 : List AOper := [⟨some 46, none, .bin .lss (.t 45) (.t 44)⟩]
@[simp] def c40_r14 : List AOper := [⟨some 47, none, .ixi 1 (.t 43) (.t 45)⟩,
  ⟨some 48, none, .ldi 1 false (.t 47)⟩,
  ⟨some 12, none, .mov (.t 48)⟩]
@[simp] def c40_r15 : List AOper := [⟨some 49, none, .mov (.t 12)⟩,
  ⟨some 50, none, .mov (.t 10)⟩,
  ⟨some 51, none, .call 61 [.t 49, .t 50] []⟩,
  ⟨some 52, none, .mov (.t 12)⟩,
  ⟨some 53, none, .mov (.t 10)⟩,
  ⟨some 54, none, .mov (.t 7)⟩,
  ⟨some 55, none, .bin .shl (.int .u64 1) (.t 54)⟩,
  ⟨some 56, none, .bin .xor (.t 53) (.t 55)⟩,
  ⟨some 57, none, .call 61 [.t 52, .t 56] []⟩,
  ⟨some 58, none, .beq true (.t 51) (.t 57)⟩]
@[simp] def c40_r16 : List AOper := [⟨some 59, none, .mov (.t 6)⟩,
  ⟨some 60, none, .mov (.t 7)⟩,
  ⟨some 61, none, .bsl 1 [.t 60]⟩,
  ⟨some 62, none, .app 6 3 1 8 (.t 59) (.t 61)⟩,
  ⟨some 6, none, .mov (.t 62)⟩]
@[simp] def c40_r17 : List AOper := [⟨some 63, none, .bin .add (.t 45) (.int .i64 1)⟩,
  ⟨some 45, none, .mov (.t 63)⟩]
def c40_b0 : AC := .seq (.ops c40_r13 false) (.seq (.cond (.t 46) (.skip) (.exit 4)) (.seq (.block 5 (.seq (.ops c40_r14 false) (.seq (.ops c40_r15 true) (.cond (.t 58) (.seq (.ops c40_r16 false) (.exit 1)) (.skip))))) (.ops c40_r17 false)))
@[simp] def c40_r18 : List AOper := [⟨some 64, none, .bin .add (.t 36) (.int .i64 1)⟩,
  ⟨some 36, none, .mov (.t 64)⟩]
def c40_b1 : AC := .seq (.ops c40_r10 false) (.seq (.cond (.t 37) (.skip) (.exit 2)) (.seq (.block 3 (.seq (.ops c40_r11 false) (.seq (.ops c40_r12 false) (.block 4 (.loop c40_b0 [4, 6, 7, 10, 22, 23, 24, 34, 35, 36, 43, 44, 45] [6]))))) (.ops c40_r18 false)))
@[simp] def c40_r19 : List AOper := [⟨some 65, none, .bin .add (.t 24) (.int .i64 1)⟩,
  ⟨some 24, none, .mov (.t 65)⟩]
def c40_b2 : AC := .seq (.ops c40_r6 false) (.seq (.cond (.t 25) (.skip) (.exit 0)) (.seq (.block 1 (.seq (.ops c40_r7 false) (.seq (.seq (.ops c40_r8 false) (.cond (.t 30) (.exit 1) (.skip))) (.seq (.ops c40_r9 false) (.block 2 (.loop c40_b1 [4, 6, 7, 22, 23, 24, 34, 35, 36] [6])))))) (.ops c40_r19 false)))
@[simp] def c40_r20 : List AOper := [⟨some 66, none, .mov (.t 6)⟩,
  ⟨some 2, none, .mov (.t 66)⟩,
  ⟨some 3, none, .mov (.int .i64 0)⟩]
@[simp] def c40 : AFn := ⟨67, [.tmp 2, .tmp 3], .seq (.ops c40_r0 false) (.scope (.seq (.ops c40_r1 false) (.seq (.seq (.ops c40_r2 false) (.cond (.t 19) (.seq (.ops c40_r3 false) (.ret)) (.skip))) (.seq (.ops c40_r4 false) (.seq (.label 0) (.seq (.seq (.ops c40_r5 false) (.block 0 (.loop c40_b2 [4, 6, 22, 23, 24] [6]))) (.seq (.ops c40_r20 false) (.ret))))))))⟩

/-- shackle papers.Doubt -/
@[simp] def c41_r0 : List AOper := [⟨some 1, none, .boxi (.t 0)⟩,
  ⟨some 2, none, .mov (.nil 1)⟩,
  ⟨some 3, none, .mov (.int .i64 0)⟩]
@[simp] def c41_r1 : List AOper := [⟨some 13, none, .ldi 2 true (.t 1)⟩,
  ⟨some 14, none, .call 52 [.t 13] []⟩,
  ⟨some 12, none, .mov (.t 14)⟩,
  ⟨some 15, none, .ext (.t 12) 0⟩,
  ⟨some 16, none, .ext (.t 12) 1⟩,
  ⟨some 4, none, .mov (.t 15)⟩,
  ⟨some 5, none, .mov (.t 16)⟩]
@[simp] def c41_r2 : List AOper := [⟨some 17, none, .mov (.t 5)⟩,
  ⟨some 18, none, .bin .neq (.t 17) (.int .i64 0)⟩]
@[simp] def c41_r3 : List AOper := [⟨some 19, none, .mov (.t 5)⟩,
  ⟨some 2, none, .mov (.nil 1)⟩,
  ⟨some 3, none, .mov (.t 19)⟩]
@[simp] def c41_r4 : List AOper := [⟨some 20, none, .mov (.t 4)⟩,
  ⟨some 21, none, .nilc (.t 20)⟩,
  ⟨some 22, none, .fld 1 (.t 21)⟩,
  ⟨some 23, none, .ldi 1 false (.t 22)⟩,
  ⟨some 24, none, .len (.t 23)⟩,
  ⟨some 25, none, .mov (.int .i64 0)⟩]
@[simp] def c41_r5 : List AOper := [⟨some 26, none, .bin .lss (.t 25) (.t 24)⟩]
@[simp] def c41_r6 : List AOper := [⟨some 27, none, .ixi 1 (.t 23) (.t 25)⟩,
  ⟨some 28, none, .ldi 1 false (.t 27)⟩,
  ⟨some 7, none, .mov (.t 28)⟩]
@[simp] def c41_r7 : List AOper := [⟨some 29, none, .mov (.t 4)⟩,
  ⟨some 30, none, .nilc (.t 29)⟩,
  ⟨some 31, none, .fld 0 (.t 30)⟩,
  ⟨some 32, none, .ldi 1 false (.t 31)⟩,
  ⟨some 33, none, .len (.t 32)⟩,
  ⟨some 34, none, .mov (.int .i64 0)⟩]
@[simp] def c41_r8 : List AOper := [⟨some 35, none, .bin .lss (.t 34) (.t 33)⟩]
@[simp] def c41_r9 : List AOper := [⟨some 36, none, .ixi 1 (.t 32) (.t 34)⟩,
  ⟨some 37, none, .ldi 1 false (.t 36)⟩,
  ⟨some 9, none, .mov (.t 37)⟩]
@[simp] def c41_r10 : List AOper := [⟨some 38, none, .mov (.t 9)⟩,
  ⟨some 39, none, .mov (.t 7)⟩,
  ⟨some 40, none, .call 61 [.t 38, .t 39] []⟩,
  ⟨some 41, none, .mov (.t 4)⟩,
  ⟨some 42, none, .nilc (.t 41)⟩,
  ⟨some 43, none, .fld 0 (.t 42)⟩,
  ⟨some 44, none, .ldi 1 false (.t 43)⟩,
  ⟨some 45, none, .ixi 1 (.t 44) (.int .i64 0)⟩,
  ⟨some 46, none, .ldi 1 false (.t 45)⟩,
  ⟨some 47, none, .mov (.t 7)⟩,
  ⟨some 48, none, .call 61 [.t 46, .t 47] []⟩,
  ⟨some 49, none, .beq false (.t 40) (.t 48)⟩]
@[simp] def c41_r11 : List AOper := [⟨some 10, none, .nilo 10 3 1⟩]
@[simp] def c41_r12 : List AOper := [⟨some 50, none, .fld 1 (.t 1)⟩,
  ⟨some 51, none, .ldi 1 false (.t 50)⟩,
  ⟨some 52, none, .len (.t 51)⟩,
  ⟨some 53, none, .mov (.int .i64 0)⟩]
@[simp] def c41_r13 : List AOper := [⟨some 54, none, .bin .lss (.t 53) (.t 52)⟩]
@[simp] def c41_r14 : List AOper := [⟨some 55, none, .mov (.t 53)⟩,
  ⟨some 11, none, .mov (.t 55)⟩]
@[simp] def c41_r15 : List AOper := [⟨some 56, none, .mov (.t 10)⟩,
  ⟨some 57, none, .mov (.t 7)⟩,
  ⟨some 58, none, .mov (.t 11)⟩,
  ⟨some 59, none, .bin .shr (.t 57) (.t 58)⟩,
  ⟨some 60, none, .bin .and (.t 59) (.int .u64 1)⟩,
  ⟨some 61, none, .cvi .i64 (.t 60)⟩,
  ⟨some 62, none, .bsl 1 [.t 61]⟩,
  ⟨some 63, none, .app 10 3 1 8 (.t 56) (.t 62)⟩,
  ⟨some 10, none, .mov (.t 63)⟩]
@[simp] def c41_r16 : List AOper := [⟨some 64, none, .bin .add (.t 53) (.int .i64 1)⟩,
  ⟨some 53, none, .mov (.t 64)⟩]
def c41_b0 : AC := .seq (.ops c41_r13 false) (.seq (.cond (.t 54) (.skip) (.exit 4)) (.seq (.block 5 (.seq (.ops c41_r14 false) (.ops c41_r15 false))) (.ops c41_r16 false)))
@[simp] def c41_r17 : List AOper := [⟨some 65, none, .mov (.t 10)⟩,
  ⟨some 2, none, .mov (.t 65)⟩,
  ⟨some 3, none, .mov (.int .i64 0)⟩]
@[simp] def c41_r18 : List AOper := [⟨some 66, none, .bin .add (.t 34) (.int .i64 1)⟩,
  ⟨some 34, none, .mov (.t 66)⟩]
def c41_b1 : AC := .seq (.ops c41_r8 false) (.seq (.cond (.t 35) (.skip) (.exit 2)) (.seq (.block 3 (.seq (.ops c41_r9 false) (.seq (.seq (.ops c41_r10 true) (.cond (.t 49) (.exit 3) (.skip))) (.seq (.ops c41_r11 false) (.seq (.seq (.ops c41_r12 false) (.block 4 (.loop c41_b0 [7, 10, 52, 53] [10]))) (.seq (.ops c41_r17 false) (.ret))))))) (.ops c41_r18 false)))
@[simp] def c41_r19 : List AOper := [⟨some 67, none, .bin .add (.t 25) (.int .i64 1)⟩,
  ⟨some 25, none, .mov (.t 67)⟩]
def c41_b2 : AC := .seq (.ops c41_r5 false) (.seq (.cond (.t 26) (.skip) (.exit 0)) (.seq (.block 1 (.seq (.ops c41_r6 false) (.seq (.ops c41_r7 false) (.block 2 (.loop c41_b1 [1, 4, 7, 23, 24, 25, 32, 33, 34] []))))) (.ops c41_r19 false)))
@[simp] def c41_r20 : List AOper := [⟨some 2, none, .mov (.nil 1)⟩,
  ⟨some 3, none, .mov (.int .i64 3)⟩]
@[simp] def c41 : AFn := ⟨68, [.tmp 2, .tmp 3], .seq (.ops c41_r0 false) (.seq (.ops c41_r1 false) (.seq (.seq (.ops c41_r2 false) (.cond (.t 18) (.seq (.ops c41_r3 false) (.ret)) (.skip))) (.seq (.seq (.ops c41_r4 false) (.block 0 (.loop c41_b2 [1, 4, 23, 24, 25] []))) (.seq (.ops c41_r20 false) (.ret)))))⟩

/-- shackle shackleref01.Within -/
@[simp] def c42_r0 : List AOper := [⟨some 6, none, .mov (.bool false)⟩]
@[simp] def c42_r1 : List AOper := [⟨some 7, none, .mov (.t 0)⟩,
  ⟨some 8, none, .mov (.t 1)⟩,
  ⟨some 9, none, .bin .geq (.t 7) (.t 8)⟩,
  ⟨some 10, none, .mov (.t 9)⟩,
  ⟨some 11, (some (10, true)), .mov (.t 0)⟩,
  ⟨some 12, (some (10, true)), .mov (.t 2)⟩,
  ⟨some 13, (some (10, true)), .bin .leq (.t 11) (.t 12)⟩,
  ⟨some 14, none, .pick (.t 10) (.t 13) (.bool false)⟩,
  ⟨some 6, none, .mov (.t 14)⟩]
@[simp] def c42 : AFn := ⟨15, [.tmp 6], .seq (.ops c42_r0 false) (.seq (.ops c42_r1 false) (.ret))⟩

/-- shackle shackleref13.Court -/
@[simp] def c43_r0 : List AOper := [⟨some 1, none, .boxi (.t 0)⟩,
  ⟨some 2, none, .mov (.int .i64 0)⟩,
  ⟨some 3, none, .mov (.int .i64 0)⟩]
@[simp] def c43_r1 : List AOper := [⟨some 9, none, .ldi 2 true (.t 1)⟩,
  ⟨some 10, none, .call 33 [.t 9] []⟩,
  ⟨some 8, none, .mov (.t 10)⟩,
  ⟨some 11, none, .ext (.t 8) 0⟩,
  ⟨some 12, none, .ext (.t 8) 1⟩,
  ⟨some 4, none, .mov (.t 11)⟩,
  ⟨some 5, none, .mov (.t 12)⟩]
@[simp] def c43_r2 : List AOper := [⟨some 13, none, .mov (.t 5)⟩,
  ⟨some 14, none, .bin .neq (.t 13) (.int .i64 0)⟩]
@[simp] def c43_r3 : List AOper := [⟨some 15, none, .mov (.t 5)⟩,
  ⟨some 2, none, .mov (.int .i64 0)⟩,
  ⟨some 3, none, .mov (.t 15)⟩]
@[simp] def c43_r4 : List AOper := [⟨some 6, none, .mov (.int .i64 0)⟩]
@[simp] def c43_r5 : List AOper := [⟨some 7, none, .mov (.int .i64 0)⟩]
@[simp] def c43_r6 : List AOper := [⟨some 16, none, .mov (.t 7)⟩,
  ⟨some 17, none, .mov (.t 4)⟩,
  ⟨some 18, none, .len (.t 17)⟩,
  ⟨some 19, none, .bin .lss (.t 16) (.t 18)⟩]
@[simp] def c43_r8 : List AOper := [⟨some 22, none, .mov (.t 6)⟩,
  ⟨some 23, none, .ldi 2 true (.t 1)⟩,
  ⟨some 24, none, .mov (.t 4)⟩,
  ⟨some 25, none, .mov (.t 7)⟩,
  ⟨some 26, none, .ixi 2 (.t 24) (.t 25)⟩,
  ⟨some 27, none, .ldi 2 true (.t 26)⟩,
  ⟨some 28, none, .call 57 [.t 23, .t 27] []⟩,
  ⟨some 29, none, .bin .add (.t 22) (.t 28)⟩,
  ⟨some 6, none, .mov (.t 29)⟩]
@[simp] def c43_r7 : List AOper := [⟨some 20, none, .mov (.t 7)⟩,
  ⟨some 21, none, .bin .add (.t 20) (.int .i64 1)⟩,
  ⟨some 7, none, .mov (.t 21)⟩]
def c43_b0 : AC := .seq (.seq (.ops c43_r6 false) (.cond (.t 19) (.skip) (.exit 0))) (.seq (.block 1 (.ops c43_r8 true)) (.ops c43_r7 false))
@[simp] def c43_r9 : List AOper := [⟨some 30, none, .mov (.t 6)⟩,
  ⟨some 31, none, .mov (.t 4)⟩,
  ⟨some 32, none, .len (.t 31)⟩,
  ⟨some 33, none, .ldi 2 true (.t 1)⟩,
  ⟨some 34, none, .call 25 [.t 33] []⟩,
  ⟨some 35, none, .len (.t 34)⟩,
  ⟨some 36, none, .bin .mul (.t 32) (.t 35)⟩,
  ⟨some 37, none, .call 56 [.t 30, .t 36] []⟩,
  ⟨some 2, none, .mov (.t 37)⟩,
  ⟨some 3, none, .mov (.int .i64 0)⟩]
@[simp] def c43 : AFn := ⟨38, [.tmp 2, .tmp 3], .seq (.ops c43_r0 false) (.seq (.ops c43_r1 false) (.seq (.seq (.ops c43_r2 false) (.cond (.t 14) (.seq (.ops c43_r3 false) (.ret)) (.skip))) (.seq (.ops c43_r4 false) (.seq (.seq (.ops c43_r5 false) (.block 0 (.loop c43_b0 [1, 4, 6, 7] []))) (.seq (.ops c43_r9 false) (.ret))))))⟩

/-- shackle shackleref13.Clear -/
@[simp] def c44_r0 : List AOper := [⟨some 1, none, .boxi (.t 0)⟩,
  ⟨some 2, none, .mov (.bool false)⟩,
  ⟨some 3, none, .mov (.int .i64 0)⟩]
@[simp] def c44_r1 : List AOper := [⟨some 9, none, .ldi 2 true (.t 1)⟩,
  ⟨some 10, none, .call 33 [.t 9] []⟩,
  ⟨some 8, none, .mov (.t 10)⟩,
  ⟨some 11, none, .ext (.t 8) 0⟩,
  ⟨some 12, none, .ext (.t 8) 1⟩,
  ⟨some 4, none, .mov (.t 11)⟩,
  ⟨some 5, none, .mov (.t 12)⟩]
@[simp] def c44_r2 : List AOper := [⟨some 13, none, .mov (.t 5)⟩,
  ⟨some 14, none, .bin .neq (.t 13) (.int .i64 0)⟩]
@[simp] def c44_r3 : List AOper := [⟨some 15, none, .mov (.t 5)⟩,
  ⟨some 2, none, .mov (.bool false)⟩,
  ⟨some 3, none, .mov (.t 15)⟩]
@[simp] def c44_r4 : List AOper := [⟨some 16, none, .ldi 2 true (.t 1)⟩,
  ⟨some 17, none, .call 25 [.t 16] []⟩,
  ⟨some 6, none, .mov (.t 17)⟩]
@[simp] def c44_r5 : List AOper := [⟨some 7, none, .mov (.int .i64 0)⟩]
@[simp] def c44_r6 : List AOper := [⟨some 18, none, .mov (.t 7)⟩,
  ⟨some 19, none, .mov (.t 6)⟩,
  ⟨some 20, none, .len (.t 19)⟩,
  ⟨some 21, none, .bin .lss (.t 18) (.t 20)⟩]
@[simp] def c44_r8 : List AOper := [⟨some 24, none, .mov (.t 4)⟩,
  ⟨some 25, none, .mov (.t 6)⟩,
  ⟨some 26, none, .mov (.t 7)⟩,
  ⟨some 27, none, .ixi 1 (.t 25) (.t 26)⟩,
  ⟨some 28, none, .ldi 1 false (.t 27)⟩,
  ⟨some 29, none, .call 46 [.t 24, .t 28] []⟩]
@[simp] def c44_r9 : List AOper := [⟨some 2, none, .mov (.bool false)⟩,
  ⟨some 3, none, .mov (.int .i64 0)⟩]
@[simp] def c44_r7 : List AOper := [⟨some 22, none, .mov (.t 7)⟩,
  ⟨some 23, none, .bin .add (.t 22) (.int .i64 1)⟩,
  ⟨some 7, none, .mov (.t 23)⟩]
def c44_b0 : AC := .seq (.seq (.ops c44_r6 false) (.cond (.t 21) (.skip) (.exit 0))) (.seq (.block 1 (.seq (.ops c44_r8 false) (.cond (.t 29) (.seq (.ops c44_r9 false) (.ret)) (.skip)))) (.ops c44_r7 false))
@[simp] def c44_r10 : List AOper := [⟨some 2, none, .mov (.bool true)⟩,
  ⟨some 3, none, .mov (.int .i64 0)⟩]
@[simp] def c44 : AFn := ⟨30, [.tmp 2, .tmp 3], .seq (.ops c44_r0 false) (.seq (.ops c44_r1 false) (.seq (.seq (.ops c44_r2 false) (.cond (.t 14) (.seq (.ops c44_r3 false) (.ret)) (.skip))) (.seq (.ops c44_r4 false) (.seq (.seq (.ops c44_r5 false) (.block 0 (.loop c44_b0 [4, 6, 7] []))) (.seq (.ops c44_r10 false) (.ret))))))⟩

/-- shackle shackleref13.Matters -/
@[simp] def c45_r0 : List AOper := [⟨some 1, none, .boxi (.t 0)⟩,
  ⟨some 2, none, .mov (.nil 1)⟩,
  ⟨some 3, none, .mov (.int .i64 0)⟩]
@[simp] def c45_r1 : List AOper := [⟨some 14, none, .ldi 2 true (.t 1)⟩,
  ⟨some 15, none, .call 33 [.t 14] []⟩,
  ⟨some 13, none, .mov (.t 15)⟩,
  ⟨some 16, none, .ext (.t 13) 0⟩,
  ⟨some 17, none, .ext (.t 13) 1⟩,
  ⟨some 4, none, .mov (.t 16)⟩,
  ⟨some 5, none, .mov (.t 17)⟩]
@[simp] def c45_r2 : List AOper := [⟨some 18, none, .mov (.t 5)⟩,
  ⟨some 19, none, .bin .neq (.t 18) (.int .i64 0)⟩]
@[simp] def c45_r3 : List AOper := [⟨some 20, none, .mov (.t 5)⟩,
  ⟨some 2, none, .mov (.nil 1)⟩,
  ⟨some 3, none, .mov (.t 20)⟩]
@[simp] def c45_r4 : List AOper := [⟨some 21, none, .ldi 2 true (.t 1)⟩,
  ⟨some 22, none, .call 25 [.t 21] []⟩,
  ⟨some 6, none, .mov (.t 22)⟩]
@[simp] def c45_r5 : List AOper := [⟨some 7, none, .nilo 7 3 1⟩]
@[simp] def c45_r6 : List AOper := [⟨some 8, none, .mov (.int .i64 0)⟩]
@[simp] def c45_r7 : List AOper := [⟨some 23, none, .mov (.t 8)⟩,
  ⟨some 24, none, .fld 1 (.t 1)⟩,
  ⟨some 25, none, .ldi 1 false (.t 24)⟩,
  ⟨some 26, none, .len (.t 25)⟩,
  ⟨some 27, none, .bin .lss (.t 23) (.t 26)⟩]
@[simp] def c45_r9 : List AOper := [⟨some 9, none, .mov (.bool false)⟩]
@[simp] def c45_r10 : List AOper := [⟨some 10, none, .mov (.int .i64 0)⟩]
@[simp] def c45_r11 : List AOper := [⟨some 30, none, .mov (.t 10)⟩,
  ⟨some 31, none, .mov (.t 6)⟩,
  ⟨some 32, none, .len (.t 31)⟩,
  ⟨some 33, none, .bin .lss (.t 30) (.t 32)⟩]
@[simp] def c45_r13 : List AOper := [⟨some 36, none, .mov (.t 6)⟩,
  ⟨some 37, none, .mov (.t 10)⟩,
  ⟨some 38, none, .ixi 1 (.t 36) (.t 37)⟩,
  ⟨some 39, none, .ldi 1 false (.t 38)⟩,
  ⟨some 40, none, .mov (.t 8)⟩,
  ⟨some 41, none, .cvi .u64 (.t 40)⟩,
  ⟨some 42, none, .bin .shl (.int .i64 1) (.t 41)⟩,
  ⟨some 43, none, .bin .xor (.t 39) (.t 42)⟩,
  ⟨some 11, none, .mov (.t 43)⟩]
@[simp] def c45_r14 : List AOper := [⟨some 12, none, .mov (.int .i64 0)⟩]
@[simp] def c45_r15 : List AOper := [⟨some 44, none, .mov (.t 12)⟩,
  ⟨some 45, none, .mov (.t 4)⟩,
  ⟨some 46, none, .len (.t 45)⟩,
  ⟨some 47, none, .bin .lss (.t 44) (.t 46)⟩,
  ⟨some 48, none, .mov (.t 47)⟩,
  ⟨some 49, (some (48, true)), .mov (.t 6)⟩,
  ⟨some 50, (some (48, true)), .mov (.t 11)⟩,
  ⟨some 51, (some (48, true)), .call 60 [.t 49, .t 50] []⟩,
  ⟨some 52, none, .pick (.t 48) (.t 51) (.bool false)⟩]
@[simp] def c45_r17 : List AOper := [⟨some 55, none, .mov (.t 9)⟩,
  ⟨some 56, none, .mov (.t 55)⟩,
  ⟨some 57, (some (56, false)), .mov (.t 4)⟩,
  ⟨some 58, (some (56, false)), .mov (.t 12)⟩,
  ⟨some 59, (some (56, false)), .ixi 2 (.t 57) (.t 58)⟩,
  ⟨some 60, (some (56, false)), .ldi 2 true (.t 59)⟩,
  ⟨some 61, (some (56, false)), .mov (.t 6)⟩,
  ⟨some 62, (some (56, false)), .mov (.t 10)⟩,
  ⟨some 63, (some (56, false)), .ixi 1 (.t 61) (.t 62)⟩,
  ⟨some 64, (some (56, false)), .ldi 1 false (.t 63)⟩,
  ⟨some 65, (some (56, false)), .call 38 [.t 60, .t 64] []⟩,
  ⟨some 66, (some (56, false)), .mov (.t 4)⟩,
  ⟨some 67, (some (56, false)), .mov (.t 12)⟩,
  ⟨some 68, (some (56, false)), .ixi 2 (.t 66) (.t 67)⟩,
  ⟨some 69, (some (56, false)), .ldi 2 true (.t 68)⟩,
  ⟨some 70, (some (56, false)), .mov (.t 11)⟩,
  ⟨some 71, (some (56, false)), .call 38 [.t 69, .t 70] []⟩,
  ⟨some 72, (some (56, false)), .beq true (.t 65) (.t 71)⟩,
  ⟨some 73, none, .pick (.t 56) (.bool true) (.t 72)⟩,
  ⟨some 9, none, .mov (.t 73)⟩]
@[simp] def c45_r16 : List AOper := [⟨some 53, none, .mov (.t 12)⟩,
  ⟨some 54, none, .bin .add (.t 53) (.int .i64 1)⟩,
  ⟨some 12, none, .mov (.t 54)⟩]
def c45_b0 : AC := .seq (.seq (.ops c45_r15 false) (.cond (.t 52) (.skip) (.exit 4))) (.seq (.block 5 (.ops c45_r17 true)) (.ops c45_r16 false))
@[simp] def c45_r12 : List AOper := [⟨some 34, none, .mov (.t 10)⟩,
  ⟨some 35, none, .bin .add (.t 34) (.int .i64 1)⟩,
  ⟨some 10, none, .mov (.t 35)⟩]
def c45_b1 : AC := .seq (.seq (.ops c45_r11 false) (.cond (.t 33) (.skip) (.exit 2))) (.seq (.block 3 (.seq (.ops c45_r13 false) (.seq (.ops c45_r14 false) (.block 4 (.loop c45_b0 [1, 4, 6, 7, 8, 9, 10, 11, 12] [7]))))) (.ops c45_r12 false))
@[simp] def c45_r18 : List AOper := [⟨some 74, none, .mov (.t 9)⟩]
@[simp] def c45_r19 : List AOper := [⟨some 75, none, .mov (.t 7)⟩,
  ⟨some 76, none, .mov (.t 8)⟩,
  ⟨some 77, none, .bsl 1 [.t 76]⟩,
  ⟨some 78, none, .app 7 3 1 8 (.t 75) (.t 77)⟩,
  ⟨some 7, none, .mov (.t 78)⟩]
@[simp] def c45_r8 : List AOper := [⟨some 28, none, .mov (.t 8)⟩,
  ⟨some 29, none, .bin .add (.t 28) (.int .i64 1)⟩,
  ⟨some 8, none, .mov (.t 29)⟩]
def c45_b2 : AC := .seq (.seq (.ops c45_r7 false) (.cond (.t 27) (.skip) (.exit 0))) (.seq (.block 1 (.seq (.ops c45_r9 false) (.seq (.seq (.ops c45_r10 false) (.block 2 (.loop c45_b1 [1, 4, 6, 7, 8, 9, 10] [7]))) (.seq (.ops c45_r18 false) (.cond (.t 74) (.ops c45_r19 false) (.skip)))))) (.ops c45_r8 false))
@[simp] def c45_r20 : List AOper := [⟨some 79, none, .mov (.t 7)⟩,
  ⟨some 2, none, .mov (.t 79)⟩,
  ⟨some 3, none, .mov (.int .i64 0)⟩]
@[simp] def c45 : AFn := ⟨80, [.tmp 2, .tmp 3], .seq (.ops c45_r0 false) (.seq (.ops c45_r1 false) (.seq (.seq (.ops c45_r2 false) (.cond (.t 19) (.seq (.ops c45_r3 false) (.ret)) (.skip))) (.seq (.ops c45_r4 false) (.seq (.ops c45_r5 false) (.seq (.seq (.ops c45_r6 false) (.block 0 (.loop c45_b2 [1, 4, 6, 7, 8] [7]))) (.seq (.ops c45_r20 false) (.ret)))))))⟩

/-- shackle shackleref13.IsDoubt -/
@[simp] def c46_r0 : List AOper := [⟨some 4, none, .mov (.bool false)⟩]
@[simp] def c46_r1 : List AOper := [⟨some 5, none, .mov (.int .i64 0)⟩]
@[simp] def c46_r2 : List AOper := [⟨some 6, none, .mov (.t 5)⟩,
  ⟨some 7, none, .mov (.t 0)⟩,
  ⟨some 8, none, .len (.t 7)⟩,
  ⟨some 9, none, .bin .lss (.t 6) (.t 8)⟩]
@[simp] def c46_r4 : List AOper := [⟨some 12, none, .mov (.t 0)⟩,
  ⟨some 13, none, .mov (.t 5)⟩,
  ⟨some 14, none, .ixi 2 (.t 12) (.t 13)⟩,
  ⟨some 15, none, .ldi 2 true (.t 14)⟩,
  ⟨some 16, none, .mov (.t 1)⟩,
  ⟨some 17, none, .call 38 [.t 15, .t 16] []⟩,
  ⟨some 18, none, .mov (.t 0)⟩,
  ⟨some 19, none, .ixi 2 (.t 18) (.int .i64 0)⟩,
  ⟨some 20, none, .ldi 2 true (.t 19)⟩,
  ⟨some 21, none, .mov (.t 1)⟩,
  ⟨some 22, none, .call 38 [.t 20, .t 21] []⟩,
  ⟨some 23, none, .beq true (.t 17) (.t 22)⟩]
@[simp] def c46_r5 : List AOper := [⟨some 4, none, .mov (.bool true)⟩]
@[simp] def c46_r3 : List AOper := [⟨some 10, none, .mov (.t 5)⟩,
  ⟨some 11, none, .bin .add (.t 10) (.int .i64 1)⟩,
  ⟨some 5, none, .mov (.t 11)⟩]
def c46_b0 : AC := .seq (.seq (.ops c46_r2 false) (.cond (.t 9) (.skip) (.exit 0))) (.seq (.block 1 (.seq (.ops c46_r4 true) (.cond (.t 23) (.seq (.ops c46_r5 false) (.ret)) (.skip)))) (.ops c46_r3 false))
@[simp] def c46_r6 : List AOper := [⟨some 4, none, .mov (.bool false)⟩]
@[simp] def c46 : AFn := ⟨24, [.tmp 4], .seq (.ops c46_r0 false) (.seq (.seq (.ops c46_r1 false) (.block 0 (.loop c46_b0 [0, 1, 5] []))) (.seq (.ops c46_r6 false) (.ret)))⟩

/-- shackle shacklelaw13.still -/
@[simp] def c47_r0 : List AOper := [⟨some 3, none, .boxi (.t 0)⟩,
  ⟨some 4, none, .boxi (.t 1)⟩,
  ⟨some 6, none, .mov (.bool false)⟩]
@[simp] def c47_r1 : List AOper := [⟨some 12, none, .ldi 2 true (.t 3)⟩,
  ⟨some 13, none, .mov (.t 2)⟩,
  ⟨some 14, none, .call 28 [.t 12, .t 13] []⟩,
  ⟨some 11, none, .mov (.t 14)⟩,
  ⟨some 15, none, .ext (.t 11) 0⟩,
  ⟨some 16, none, .ext (.t 11) 1⟩,
  ⟨some 7, none, .mov (.t 15)⟩,
  ⟨some 8, none, .mov (.t 16)⟩]
@[simp] def c47_r2 : List AOper := [⟨some 18, none, .ldi 2 true (.t 4)⟩,
  ⟨some 19, none, .mov (.t 2)⟩,
  ⟨some 20, none, .call 28 [.t 18, .t 19] []⟩,
  ⟨some 17, none, .mov (.t 20)⟩,
  ⟨some 21, none, .ext (.t 17) 0⟩,
  ⟨some 22, none, .ext (.t 17) 1⟩,
  ⟨some 9, none, .mov (.t 21)⟩,
  ⟨some 10, none, .mov (.t 22)⟩]
@[simp] def c47_r3 : List AOper := [⟨some 23, none, .mov (.t 8)⟩,
  ⟨some 24, none, .bin .eql (.t 23) (.int .i64 0)⟩,
  ⟨some 25, none, .mov (.t 24)⟩,
  ⟨some 26, (some (25, true)), .mov (.t 10)⟩,
  ⟨some 27, (some (25, true)), .bin .eql (.t 26) (.int .i64 0)⟩,
  ⟨some 28, none, .pick (.t 25) (.t 27) (.bool false)⟩,
  ⟨some 29, none, .mov (.t 28)⟩,
  ⟨some 30, (some (29, true)), .mov (.t 7)⟩,
  ⟨some 31, (some (29, true)), .call 36 [.t 30] []⟩,
  ⟨some 32, none, .pick (.t 29) (.t 31) (.bool false)⟩,
  ⟨some 33, none, .mov (.t 32)⟩,
  ⟨some 34, (some (33, true)), .mov (.t 9)⟩,
  ⟨some 35, (some (33, true)), .call 36 [.t 34] []⟩,
  ⟨some 36, none, .pick (.t 33) (.t 35) (.bool false)⟩,
  ⟨some 37, none, .mov (.t 36)⟩,
  ⟨some 38, (some (37, true)), .mov (.t 7)⟩,
  ⟨some 39, (some (37, true)), .bin .eql (.t 38) (.int .i64 3)⟩,
  ⟨some 40, (some (37, true)), .mov (.t 39)⟩,
  ⟨some 41, (some (40, false)), .mov (.t 9)⟩,
  ⟨some 42, (some (40, false)), .mov (.t 7)⟩,
  ⟨some 43, (some (40, false)), .bin .eql (.t 41) (.t 42)⟩,
  ⟨some 44, (some (37, true)), .pick (.t 40) (.bool true) (.t 43)⟩,
  ⟨some 45, none, .pick (.t 37) (.t 44) (.bool false)⟩,
  ⟨some 6, none, .mov (.t 45)⟩]
@[simp] def c47 : AFn := ⟨46, [.tmp 6], .seq (.ops c47_r0 false) (.seq (.ops c47_r1 false) (.seq (.ops c47_r2 false) (.seq (.ops c47_r3 false) (.ret))))⟩

/-- shackle shacklelaw13.keeps -/
@[simp] def c48_r0 : List AOper := [⟨some 2, none, .boxi (.t 0)⟩,
  ⟨some 3, none, .boxi (.t 1)⟩,
  ⟨some 4, none, .mov (.bool false)⟩]
@[simp] def c48_r1 : List AOper := [⟨some 18, none, .ldi 2 true (.t 2)⟩,
  ⟨some 19, none, .call 35 [.t 18] []⟩,
  ⟨some 17, none, .mov (.t 19)⟩,
  ⟨some 20, none, .ext (.t 17) 0⟩,
  ⟨some 21, none, .ext (.t 17) 1⟩,
  ⟨some 5, none, .mov (.t 20)⟩,
  ⟨some 6, none, .mov (.t 21)⟩]
@[simp] def c48_r2 : List AOper := [⟨some 23, none, .ldi 2 true (.t 3)⟩,
  ⟨some 24, none, .call 35 [.t 23] []⟩,
  ⟨some 22, none, .mov (.t 24)⟩,
  ⟨some 25, none, .ext (.t 22) 0⟩,
  ⟨some 26, none, .ext (.t 22) 1⟩,
  ⟨some 7, none, .mov (.t 25)⟩,
  ⟨some 8, none, .mov (.t 26)⟩]
@[simp] def c48_r3 : List AOper := [⟨some 28, none, .ldi 2 true (.t 2)⟩,
  ⟨some 29, none, .call 39 [.t 28] []⟩,
  ⟨some 27, none, .mov (.t 29)⟩,
  ⟨some 30, none, .ext (.t 27) 0⟩,
  ⟨some 31, none, .ext (.t 27) 1⟩,
  ⟨some 9, none, .mov (.t 30)⟩,
  ⟨some 10, none, .mov (.t 31)⟩]
@[simp] def c48_r4 : List AOper := [⟨some 33, none, .ldi 2 true (.t 3)⟩,
  ⟨some 34, none, .call 39 [.t 33] []⟩,
  ⟨some 32, none, .mov (.t 34)⟩,
  ⟨some 35, none, .ext (.t 32) 0⟩,
  ⟨some 36, none, .ext (.t 32) 1⟩,
  ⟨some 11, none, .mov (.t 35)⟩,
  ⟨some 12, none, .mov (.t 36)⟩]
@[simp] def c48_r5 : List AOper := [⟨some 38, none, .ldi 2 true (.t 2)⟩,
  ⟨some 39, none, .call 40 [.t 38] []⟩,
  ⟨some 37, none, .mov (.t 39)⟩,
  ⟨some 40, none, .ext (.t 37) 0⟩,
  ⟨some 41, none, .ext (.t 37) 1⟩,
  ⟨some 13, none, .mov (.t 40)⟩,
  ⟨some 14, none, .mov (.t 41)⟩]
@[simp] def c48_r6 : List AOper := [⟨some 43, none, .ldi 2 true (.t 3)⟩,
  ⟨some 44, none, .call 40 [.t 43] []⟩,
  ⟨some 42, none, .mov (.t 44)⟩,
  ⟨some 45, none, .ext (.t 42) 0⟩,
  ⟨some 46, none, .ext (.t 42) 1⟩,
  ⟨some 15, none, .mov (.t 45)⟩,
  ⟨some 16, none, .mov (.t 46)⟩]
@[simp] def c48_r7 : List AOper := [⟨some 47, none, .mov (.t 6)⟩,
  ⟨some 48, none, .bin .eql (.t 47) (.int .i64 0)⟩,
  ⟨some 49, none, .mov (.t 48)⟩,
  ⟨some 50, (some (49, true)), .mov (.t 8)⟩,
  ⟨some 51, (some (49, true)), .bin .eql (.t 50) (.int .i64 0)⟩,
  ⟨some 52, none, .pick (.t 49) (.t 51) (.bool false)⟩,
  ⟨some 53, none, .mov (.t 52)⟩,
  ⟨some 54, (some (53, true)), .mov (.t 10)⟩,
  ⟨some 55, (some (53, true)), .bin .eql (.t 54) (.int .i64 0)⟩,
  ⟨some 56, none, .pick (.t 53) (.t 55) (.bool false)⟩,
  ⟨some 57, none, .mov (.t 56)⟩,
  ⟨some 58, (some (57, true)), .mov (.t 12)⟩,
  ⟨some 59, (some (57, true)), .bin .eql (.t 58) (.int .i64 0)⟩,
  ⟨some 60, none, .pick (.t 57) (.t 59) (.bool false)⟩,
  ⟨some 61, none, .mov (.t 60)⟩,
  ⟨some 62, (some (61, true)), .mov (.t 14)⟩,
  ⟨some 63, (some (61, true)), .bin .eql (.t 62) (.int .i64 0)⟩,
  ⟨some 64, none, .pick (.t 61) (.t 63) (.bool false)⟩,
  ⟨some 65, none, .mov (.t 64)⟩,
  ⟨some 66, (some (65, true)), .mov (.t 16)⟩,
  ⟨some 67, (some (65, true)), .bin .eql (.t 66) (.int .i64 0)⟩,
  ⟨some 68, none, .pick (.t 65) (.t 67) (.bool false)⟩,
  ⟨some 69, none, .mov (.t 68)⟩,
  ⟨some 70, (some (69, true)), .mov (.t 5)⟩,
  ⟨some 71, (some (69, true)), .call 36 [.t 70] []⟩,
  ⟨some 72, none, .pick (.t 69) (.t 71) (.bool false)⟩,
  ⟨some 73, none, .mov (.t 72)⟩,
  ⟨some 74, (some (73, true)), .mov (.t 5)⟩,
  ⟨some 75, (some (73, true)), .bin .eql (.t 74) (.int .i64 3)⟩,
  ⟨some 76, (some (73, true)), .mov (.t 75)⟩,
  ⟨some 77, (some (76, false)), .mov (.t 7)⟩,
  ⟨some 78, (some (76, false)), .mov (.t 5)⟩,
  ⟨some 79, (some (76, false)), .bin .eql (.t 77) (.t 78)⟩,
  ⟨some 80, (some (73, true)), .pick (.t 76) (.bool true) (.t 79)⟩,
  ⟨some 81, none, .pick (.t 73) (.t 80) (.bool false)⟩,
  ⟨some 82, none, .mov (.t 81)⟩,
  ⟨some 83, (some (82, true)), .mov (.t 9)⟩,
  ⟨some 84, (some (82, true)), .not (.t 83)⟩,
  ⟨some 85, (some (82, true)), .mov (.t 84)⟩,
  ⟨some 86, (some (85, false)), .mov (.t 11)⟩,
  ⟨some 87, (some (82, true)), .pick (.t 85) (.bool true) (.t 86)⟩,
  ⟨some 88, none, .pick (.t 82) (.t 87) (.bool false)⟩,
  ⟨some 89, none, .mov (.t 88)⟩,
  ⟨some 90, (some (89, true)), .mov (.t 13)⟩,
  ⟨some 91, (some (89, true)), .len (.t 90)⟩,
  ⟨some 92, (some (89, true)), .bin .leq (.t 91) (.int .i64 40)⟩,
  ⟨some 93, none, .pick (.t 89) (.t 92) (.bool false)⟩,
  ⟨some 94, none, .mov (.t 93)⟩,
  ⟨some 95, (some (94, true)), .mov (.t 15)⟩,
  ⟨some 96, (some (94, true)), .mov (.t 13)⟩,
  ⟨some 97, (some (94, true)), .call 62 [.t 95, .t 96] []⟩,
  ⟨some 98, none, .pick (.t 94) (.t 97) (.bool false)⟩,
  ⟨some 4, none, .mov (.t 98)⟩]
@[simp] def c48 : AFn := ⟨99, [.tmp 4], .seq (.ops c48_r0 false) (.seq (.ops c48_r1 false) (.seq (.ops c48_r2 false) (.seq (.ops c48_r3 false) (.seq (.ops c48_r4 false) (.seq (.ops c48_r5 false) (.seq (.ops c48_r6 false) (.seq (.ops c48_r7 false) (.ret))))))))⟩

/-- shackle shacklelaw13.Example -/
@[simp] def c49_r0 : List AOper := [⟨some 0, none, .alo 0 [.str [], .nil 1]⟩]
@[simp] def c49_r1 : List AOper := [⟨some 1, none, .bsl 1 [.int .i64 3, .int .i64 3, .int .i64 1]⟩,
  ⟨some 2, none, .bld [.str [], .nil 1] [(0, 1, .str [110, 111, 116, 32, 97, 32, 97, 110, 100, 32, 98, 32, 111, 114, 32, 99]), (1, 1, .t 1)]⟩,
  ⟨none, none, .sto 0 2 (.t 0) (.t 2)⟩]
@[simp] def c49 : AFn := ⟨3, [.cell 0 2 true], .seq (.ops c49_r0 false) (.seq (.ops c49_r1 false) (.ret))⟩

/-- shackle papers.one -/
@[simp] def c50_r0 : List AOper := [⟨some 2, none, .boxi (.t 0)⟩,
  ⟨some 4, none, .mov (.nilp)⟩,
  ⟨some 5, none, .mov (.nilp)⟩,
  ⟨some 6, none, .mov (.int .i64 0)⟩]
@[simp] def c50_r1 : List AOper := [⟨some 10, none, .ldi 2 true (.t 2)⟩,
  ⟨some 11, none, .call 52 [.t 10] []⟩,
  ⟨some 9, none, .mov (.t 11)⟩,
  ⟨some 12, none, .ext (.t 9) 0⟩,
  ⟨some 13, none, .ext (.t 9) 1⟩,
  ⟨some 7, none, .mov (.t 12)⟩,
  ⟨some 8, none, .mov (.t 13)⟩]
@[simp] def c50_r2 : List AOper := [⟨some 14, none, .mov (.t 8)⟩,
  ⟨some 15, none, .bin .neq (.t 14) (.int .i64 0)⟩]
@[simp] def c50_r3 : List AOper := [⟨some 16, none, .mov (.t 8)⟩,
  ⟨some 4, none, .mov (.nilp)⟩,
  ⟨some 5, none, .mov (.nilp)⟩,
  ⟨some 6, none, .mov (.t 16)⟩]
@[simp] def c50_r4 : List AOper := [⟨some 17, none, .mov (.t 1)⟩,
  ⟨some 18, none, .bin .lss (.t 17) (.int .i64 0)⟩,
  ⟨some 19, none, .mov (.t 18)⟩,
  ⟨some 20, (some (19, false)), .mov (.t 1)⟩,
  ⟨some 21, (some (19, false)), .mov (.t 7)⟩,
  ⟨some 22, (some (19, false)), .nilc (.t 21)⟩,
  ⟨some 23, (some (19, false)), .fld 0 (.t 22)⟩,
  ⟨some 24, (some (19, false)), .ldi 1 false (.t 23)⟩,
  ⟨some 25, (some (19, false)), .len (.t 24)⟩,
  ⟨some 26, (some (19, false)), .bin .geq (.t 20) (.t 25)⟩,
  ⟨some 27, none, .pick (.t 19) (.bool true) (.t 26)⟩]
@[simp] def c50_r5 : List AOper := [⟨some 4, none, .mov (.nilp)⟩,
  ⟨some 5, none, .mov (.nilp)⟩,
  ⟨some 6, none, .mov (.int .i64 1)⟩]
@[simp] def c50_r6 : List AOper := [⟨some 28, none, .mov (.t 7)⟩,
  ⟨some 29, none, .mov (.t 7)⟩,
  ⟨some 30, none, .nilc (.t 29)⟩,
  ⟨some 31, none, .fld 0 (.t 30)⟩,
  ⟨some 32, none, .ldi 1 false (.t 31)⟩,
  ⟨some 33, none, .mov (.t 1)⟩,
  ⟨some 34, none, .ixi 1 (.t 32) (.t 33)⟩,
  ⟨some 35, none, .ldi 1 false (.t 34)⟩,
  ⟨some 4, none, .mov (.t 28)⟩,
  ⟨some 5, none, .mov (.t 35)⟩,
  ⟨some 6, none, .mov (.int .i64 0)⟩]
@[simp] def c50 : AFn := ⟨36, [.tmp 4, .tmp 5, .tmp 6], .seq (.ops c50_r0 false) (.seq (.ops c50_r1 false) (.seq (.seq (.ops c50_r2 false) (.cond (.t 15) (.seq (.ops c50_r3 false) (.ret)) (.skip))) (.seq (.seq (.ops c50_r4 false) (.cond (.t 27) (.seq (.ops c50_r5 false) (.ret)) (.skip))) (.seq (.ops c50_r6 true) (.ret)))))⟩

/-- (*shackle papers.reading).text -/
@[simp] def c51_r0 : List AOper := [⟨some 2, none, .mov (.str [])⟩]
@[simp] def c51_r1 : List AOper := [⟨some 3, none, .mov (.t 0)⟩,
  ⟨some 4, none, .nilc (.t 3)⟩,
  ⟨some 5, none, .fld 1 (.t 4)⟩,
  ⟨some 6, none, .ldi 1 false (.t 5)⟩]
@[simp] def c51_r2 : List AOper := [⟨some 8, none, .bin .eql (.t 6) (.str [])⟩,
  ⟨some 7, none, .mov (.t 8)⟩]
@[simp] def c51_r3 : List AOper := [⟨some 9, none, .mov (.t 0)⟩,
  ⟨some 10, none, .nilc (.t 9)⟩,
  ⟨some 11, none, .fld 0 (.t 10)⟩,
  ⟨some 12, none, .ldi 1 false (.t 11)⟩,
  ⟨some 13, none, .bin .add (.int .i64 97) (.t 12)⟩,
  ⟨some 14, none, .cvi .i32 (.t 13)⟩,
  ⟨some 15, none, .i2s (.t 14)⟩,
  ⟨some 2, none, .mov (.t 15)⟩]
@[simp] def c51_r4 : List AOper := [⟨some 17, none, .bin .eql (.t 6) (.str [110, 111, 116])⟩,
  ⟨some 16, none, .mov (.t 17)⟩]
@[simp] def c51_r5 : List AOper := [⟨some 18, none, .mov (.t 0)⟩,
  ⟨some 19, none, .nilc (.t 18)⟩,
  ⟨some 20, none, .fld 3 (.t 19)⟩,
  ⟨some 21, none, .ldi 1 false (.t 20)⟩,
  ⟨some 22, none, .call 51 [.t 21] []⟩,
  ⟨some 23, none, .bin .add (.str [40, 110, 111, 116, 32]) (.t 22)⟩,
  ⟨some 24, none, .bin .add (.t 23) (.str [41])⟩,
  ⟨some 2, none, .mov (.t 24)⟩]
@[simp] def c51_r6 : List AOper := [⟨some 25, none, .mov (.t 0)⟩,
  ⟨some 26, none, .nilc (.t 25)⟩,
  ⟨some 27, none, .fld 2 (.t 26)⟩,
  ⟨some 28, none, .ldi 1 false (.t 27)⟩,
  ⟨some 29, none, .call 51 [.t 28] []⟩,
  ⟨some 30, none, .bin .add (.str [40]) (.t 29)⟩,
  ⟨some 31, none, .bin .add (.t 30) (.str [32])⟩,
  ⟨some 32, none, .mov (.t 0)⟩,
  ⟨some 33, none, .nilc (.t 32)⟩,
  ⟨some 34, none, .fld 1 (.t 33)⟩,
  ⟨some 35, none, .ldi 1 false (.t 34)⟩,
  ⟨some 36, none, .bin .add (.t 31) (.t 35)⟩,
  ⟨some 37, none, .bin .add (.t 36) (.str [32])⟩,
  ⟨some 38, none, .mov (.t 0)⟩,
  ⟨some 39, none, .nilc (.t 38)⟩,
  ⟨some 40, none, .fld 3 (.t 39)⟩,
  ⟨some 41, none, .ldi 1 false (.t 40)⟩,
  ⟨some 42, none, .call 51 [.t 41] []⟩,
  ⟨some 43, none, .bin .add (.t 37) (.t 42)⟩,
  ⟨some 44, none, .bin .add (.t 43) (.str [41])⟩,
  ⟨some 2, none, .mov (.t 44)⟩]
@[simp] def c51 : AFn := ⟨45, [.tmp 2], .seq (.ops c51_r0 false) (.seq (.seq (.ops c51_r1 false) (.block 0 (.seq (.ops c51_r2 false) (.cond (.t 7) (.seq (.ops c51_r3 false) (.ret)) (.seq (.ops c51_r4 false) (.cond (.t 16) (.seq (.ops c51_r5 false) (.ret)) (.skip))))))) (.seq (.ops c51_r6 true) (.ret)))⟩

/-- shackle papers.read -/
@[simp] def c52_r0 : List AOper := [⟨some 1, none, .boxi (.t 0)⟩,
  ⟨some 2, none, .mov (.nilp)⟩,
  ⟨some 3, none, .mov (.int .i64 0)⟩]
@[simp] def c52_r1 : List AOper := [⟨some 12, none, .fld 1 (.t 1)⟩,
  ⟨some 13, none, .ldi 1 false (.t 12)⟩,
  ⟨some 14, none, .len (.t 13)⟩,
  ⟨some 15, none, .bin .gtr (.t 14) (.int .i64 6)⟩]
@[simp] def c52_r2 : List AOper := [⟨some 2, none, .mov (.nilp)⟩,
  ⟨some 3, none, .mov (.int .i64 130)⟩]
@[simp] def c52_r3 : List AOper := [⟨some 16, none, .bso 16 87 1 [.int .u64 0]⟩,
  ⟨some 17, none, .bld [.nil 1, .nil 1] [(1, 1, .t 16)]⟩,
  ⟨some 18, none, .boxo 18 (.t 17)⟩,
  ⟨some 4, none, .mov (.t 18)⟩]
@[simp] def c52_r4 : List AOper := [⟨some 19, none, .fld 1 (.t 1)⟩,
  ⟨some 20, none, .ldi 1 false (.t 19)⟩,
  ⟨some 21, none, .len (.t 20)⟩,
  ⟨some 22, none, .mov (.int .i64 0)⟩]
@[simp] def c52_r5 : List AOper := [⟨some 23, none, .bin .lss (.t 22) (.t 21)⟩]
@[simp] def c52_r6 : List AOper := [⟨some 24, none, .mov (.t 22)⟩,
  ⟨some 25, none, .ixi 1 (.t 20) (.t 22)⟩,
  ⟨some 26, none, .ldi 1 false (.t 25)⟩,
  ⟨some 5, none, .mov (.t 24)⟩,
  ⟨some 6, none, .mov (.t 26)⟩]
@[simp] def c52_r7 : List AOper := [⟨some 27, none, .mov (.t 5)⟩,
  ⟨some 28, none, .bin .shl (.int .u64 1) (.t 27)⟩,
  ⟨some 7, none, .mov (.t 28)⟩]
@[simp] def c52_r8 : List AOper := [⟨some 29, none, .mov (.t 6)⟩]
@[simp] def c52_r10 : List AOper := [⟨some 31, none, .bin .eql (.t 29) (.int .i64 1)⟩,
  ⟨some 30, none, .mov (.t 31)⟩]
@[simp] def c52_r11 : List AOper := [⟨some 32, none, .mov (.t 4)⟩,
  ⟨some 33, none, .nilc (.t 32)⟩,
  ⟨some 34, none, .fld 1 (.t 33)⟩,
  ⟨some 35, none, .ldo 18 1 false (.t 34)⟩,
  ⟨some 36, none, .leno 16 (.t 35)⟩,
  ⟨some 37, none, .mov (.int .i64 0)⟩]
@[simp] def c52_r12 : List AOper := [⟨some 38, none, .bin .lss (.t 37) (.t 36)⟩]
@[simp] def c52_r13 : List AOper := [⟨some 39, none, .mov (.t 37)⟩,
  ⟨some 8, none, .mov (.t 39)⟩]
@[simp] def c52_r14 : List AOper := [⟨some 40, none, .mov (.t 4)⟩,
  ⟨some 41, none, .nilc (.t 40)⟩,
  ⟨some 42, none, .fld 1 (.t 41)⟩,
  ⟨some 43, none, .ldo 18 1 false (.t 42)⟩,
  ⟨some 44, none, .mov (.t 8)⟩,
  ⟨some 45, none, .ixo 16 1 (.t 43) (.t 44)⟩,
  ⟨some 46, none, .ldo 16 1 false (.t 45)⟩,
  ⟨some 47, none, .mov (.t 7)⟩,
  ⟨some 48, none, .bin .or (.t 46) (.t 47)⟩,
  ⟨some 49, none, .ixo 16 1 (.t 43) (.t 44)⟩,
  ⟨none, none, .sto 16 1 (.t 49) (.t 48)⟩]
@[simp] def c52_r15 : List AOper := [⟨some 50, none, .bin .add (.t 37) (.int .i64 1)⟩,
  ⟨some 37, none, .mov (.t 50)⟩]
def c52_b0 : AC := .seq (.ops c52_r12 false) (.seq (.cond (.t 38) (.skip) (.exit 3)) (.seq (.block 4 (.seq (.ops c52_r13 false) (.ops c52_r14 false))) (.ops c52_r15 false)))
@[simp] def c52_r16 : List AOper := [⟨some 52, none, .bin .eql (.t 29) (.int .i64 2)⟩,
  ⟨some 51, none, .mov (.t 52)⟩]
@[simp] def c52_r17 : List AOper := [⟨some 54, none, .bin .eql (.t 29) (.int .i64 3)⟩,
  ⟨some 53, none, .mov (.t 54)⟩]
@[simp] def c52_r18 : List AOper := [⟨some 55, none, .mov (.t 4)⟩,
  ⟨some 56, none, .nilc (.t 55)⟩,
  ⟨some 57, none, .fld 1 (.t 56)⟩,
  ⟨some 58, none, .ldo 18 1 false (.t 57)⟩,
  ⟨some 59, none, .leno 16 (.t 58)⟩,
  ⟨some 60, none, .mov (.int .i64 0)⟩]
@[simp] def c52_r19 : List AOper := [⟨some 61, none, .bin .lss (.t 60) (.t 59)⟩]
@[simp] def c52_r20 : List AOper := [⟨some 62, none, .ixo 16 1 (.t 58) (.t 60)⟩,
  ⟨some 63, none, .ldo 16 1 false (.t 62)⟩,
  ⟨some 10, none, .mov (.t 63)⟩]
@[simp] def c52_r21 : List AOper := [⟨some 64, none, .mov (.t 4)⟩,
  ⟨some 65, none, .mov (.t 4)⟩,
  ⟨some 66, none, .nilc (.t 65)⟩,
  ⟨some 67, none, .fld 1 (.t 66)⟩,
  ⟨some 68, none, .ldo 18 1 false (.t 67)⟩,
  ⟨some 69, none, .mov (.t 10)⟩,
  ⟨some 70, none, .mov (.t 7)⟩,
  ⟨some 71, none, .bin .or (.t 69) (.t 70)⟩,
  ⟨some 72, none, .bsl 1 [.t 71]⟩,
  ⟨some 73, none, .app 16 87 1 8 (.t 68) (.t 72)⟩,
  ⟨some 74, none, .nilc (.t 64)⟩,
  ⟨some 75, none, .fld 1 (.t 74)⟩,
  ⟨none, none, .sto 18 1 (.t 75) (.t 73)⟩]
@[simp] def c52_r22 : List AOper := [⟨some 76, none, .bin .add (.t 60) (.int .i64 1)⟩,
  ⟨some 60, none, .mov (.t 76)⟩]
def c52_b1 : AC := .seq (.ops c52_r19 false) (.seq (.cond (.t 61) (.skip) (.exit 5)) (.seq (.block 6 (.seq (.ops c52_r20 false) (.ops c52_r21 false))) (.ops c52_r22 false)))
@[simp] def c52_r9 : List AOper := [⟨some 2, none, .mov (.nilp)⟩,
  ⟨some 3, none, .mov (.int .i64 130)⟩]
@[simp] def c52_r23 : List AOper := [⟨some 77, none, .bin .add (.t 22) (.int .i64 1)⟩,
  ⟨some 22, none, .mov (.t 77)⟩]
def c52_b2 : AC := .seq (.ops c52_r5 false) (.seq (.cond (.t 23) (.skip) (.exit 0)) (.seq (.block 1 (.seq (.ops c52_r6 false) (.seq (.ops c52_r7 false) (.seq (.ops c52_r8 false) (.block 2 (.seq (.ops c52_r10 false) (.cond (.t 30) (.seq (.ops c52_r11 false) (.block 3 (.loop c52_b0 [1, 4, 7, 20, 21, 22, 36, 37] [16, 18]))) (.seq (.ops c52_r16 false) (.cond (.t 51) (.skip) (.seq (.ops c52_r17 false) (.cond (.t 53) (.seq (.ops c52_r18 false) (.block 5 (.loop c52_b1 [1, 4, 7, 20, 21, 22, 58, 59, 60] [16, 18]))) (.seq (.ops c52_r9 false) (.ret))))))))))))) (.ops c52_r23 false)))
@[simp] def c52_r24 : List AOper := [⟨some 78, none, .fld 0 (.t 1)⟩,
  ⟨some 79, none, .ldi 1 false (.t 78)⟩,
  ⟨some 80, none, .call 63 [.t 79, .str [32]] []⟩,
  ⟨some 11, none, .mov (.t 80)⟩]
@[simp] def c52_r25 : List AOper := [⟨some 81, none, .mov (.t 11)⟩,
  ⟨some 82, none, .len (.t 81)⟩,
  ⟨some 83, none, .bin .gtr (.t 82) (.int .i64 11)⟩]
@[simp] def c52_r26 : List AOper := [⟨some 2, none, .mov (.nilp)⟩,
  ⟨some 3, none, .mov (.int .i64 131)⟩]
@[simp] def c52_r27 : List AOper := [⟨some 84, none, .mov (.t 4)⟩,
  ⟨some 85, none, .mov (.t 11)⟩,
  ⟨some 86, none, .fld 1 (.t 1)⟩,
  ⟨some 87, none, .ldi 1 false (.t 86)⟩,
  ⟨some 88, none, .len (.t 87)⟩,
  ⟨some 89, none, .call 64 [.t 85, .t 88] []⟩,
  ⟨some 90, none, .nilc (.t 84)⟩,
  ⟨some 91, none, .fld 0 (.t 90)⟩,
  ⟨none, none, .sto 18 1 (.t 91) (.t 89)⟩]
@[simp] def c52_r28 : List AOper := [⟨some 92, none, .mov (.t 4)⟩,
  ⟨some 93, none, .nilc (.t 92)⟩,
  ⟨some 94, none, .fld 0 (.t 93)⟩,
  ⟨some 95, none, .ldo 18 1 false (.t 94)⟩,
  ⟨some 96, none, .len (.t 95)⟩,
  ⟨some 97, none, .bin .eql (.t 96) (.int .i64 0)⟩]
@[simp] def c52_r29 : List AOper := [⟨some 2, none, .mov (.nilp)⟩,
  ⟨some 3, none, .mov (.int .i64 131)⟩]
@[simp] def c52_r30 : List AOper := [⟨some 98, none, .mov (.t 4)⟩,
  ⟨some 2, none, .mov (.t 98)⟩,
  ⟨some 3, none, .mov (.int .i64 0)⟩]
@[simp] def c52 : AFn := ⟨99, [.tmp 2, .tmp 3], .seq (.ops c52_r0 false) (.seq (.seq (.ops c52_r1 false) (.cond (.t 15) (.seq (.ops c52_r2 false) (.ret)) (.skip))) (.seq (.ops c52_r3 false) (.seq (.seq (.ops c52_r4 false) (.block 0 (.loop c52_b2 [1, 4, 20, 21, 22] [16, 18]))) (.seq (.ops c52_r24 false) (.seq (.seq (.ops c52_r25 false) (.cond (.t 83) (.seq (.ops c52_r26 false) (.ret)) (.skip))) (.seq (.seq (.ops c52_r27 false) (.seq (.ops c52_r28 false) (.cond (.t 97) (.seq (.ops c52_r29 false) (.ret)) (.skip)))) (.seq (.ops c52_r30 false) (.ret))))))))⟩

/-- shackle shackleref13.one -/
@[simp] def c53_r0 : List AOper := [⟨some 2, none, .boxi (.t 0)⟩,
  ⟨some 4, none, .alo 4 [.str [], .int .u64 0]⟩,
  ⟨some 5, none, .mov (.int .i64 0)⟩]
@[simp] def c53_r1 : List AOper := [⟨some 9, none, .ldi 2 true (.t 2)⟩,
  ⟨some 10, none, .call 33 [.t 9] []⟩,
  ⟨some 8, none, .mov (.t 10)⟩,
  ⟨some 11, none, .ext (.t 8) 0⟩,
  ⟨some 12, none, .ext (.t 8) 1⟩,
  ⟨some 6, none, .mov (.t 11)⟩,
  ⟨some 7, none, .mov (.t 12)⟩]
@[simp] def c53_r2 : List AOper := [⟨some 13, none, .mov (.t 7)⟩,
  ⟨some 14, none, .bin .neq (.t 13) (.int .i64 0)⟩]
@[simp] def c53_r3 : List AOper := [⟨some 15, none, .bld [.str [], .int .u64 0] []⟩,
  ⟨some 16, none, .mov (.t 7)⟩,
  ⟨none, none, .sto 4 2 (.t 4) (.t 15)⟩,
  ⟨some 5, none, .mov (.t 16)⟩]
@[simp] def c53_r4 : List AOper := [⟨some 17, none, .mov (.t 1)⟩,
  ⟨some 18, none, .mov (.t 6)⟩,
  ⟨some 19, none, .len (.t 18)⟩,
  ⟨some 20, none, .bin .sub (.t 19) (.int .i64 1)⟩,
  ⟨some 21, none, .call 42 [.t 17, .int .i64 0, .t 20] []⟩,
  ⟨some 22, none, .not (.t 21)⟩]
@[simp] def c53_r5 : List AOper := [⟨some 23, none, .bld [.str [], .int .u64 0] []⟩,
  ⟨none, none, .sto 4 2 (.t 4) (.t 23)⟩,
  ⟨some 5, none, .mov (.int .i64 1)⟩]
@[simp] def c53_r6 : List AOper := [⟨some 24, none, .mov (.t 6)⟩,
  ⟨some 25, none, .mov (.t 1)⟩,
  ⟨some 26, none, .ixi 2 (.t 24) (.t 25)⟩,
  ⟨some 27, none, .ldi 2 true (.t 26)⟩,
  ⟨none, none, .sto 4 2 (.t 4) (.t 27)⟩,
  ⟨some 5, none, .mov (.int .i64 0)⟩]
@[simp] def c53 : AFn := ⟨28, [.cell 4 2 true, .tmp 5], .seq (.ops c53_r0 false) (.seq (.ops c53_r1 false) (.seq (.seq (.ops c53_r2 false) (.cond (.t 14) (.seq (.ops c53_r3 false) (.ret)) (.skip))) (.seq (.seq (.ops c53_r4 false) (.cond (.t 22) (.seq (.ops c53_r5 false) (.ret)) (.skip))) (.seq (.ops c53_r6 false) (.ret)))))⟩

/-- (*shackle papers.paper).count -/
@[simp] def c54_r0 : List AOper := [⟨some 4, none, .mov (.int .i64 0)⟩]
@[simp] def c54_r1 : List AOper := [⟨some 7, none, .mov (.t 0)⟩,
  ⟨some 8, none, .nilc (.t 7)⟩,
  ⟨some 9, none, .fld 1 (.t 8)⟩,
  ⟨some 10, none, .ldi 1 false (.t 9)⟩,
  ⟨some 11, none, .len (.t 10)⟩,
  ⟨some 12, none, .mov (.int .i64 0)⟩]
@[simp] def c54_r2 : List AOper := [⟨some 13, none, .bin .lss (.t 12) (.t 11)⟩]
@[simp] def c54_r3 : List AOper := [⟨some 14, none, .ixi 1 (.t 10) (.t 12)⟩,
  ⟨some 15, none, .ldi 1 false (.t 14)⟩,
  ⟨some 6, none, .mov (.t 15)⟩]
@[simp] def c54_r4 : List AOper := [⟨some 16, none, .mov (.t 1)⟩,
  ⟨some 17, none, .mov (.t 6)⟩,
  ⟨some 18, none, .call 61 [.t 16, .t 17] []⟩]
@[simp] def c54_r5 : List AOper := [⟨some 19, none, .mov (.t 4)⟩,
  ⟨some 20, none, .bin .add (.t 19) (.int .i64 1)⟩,
  ⟨some 4, none, .mov (.t 20)⟩]
@[simp] def c54_r6 : List AOper := [⟨some 21, none, .bin .add (.t 12) (.int .i64 1)⟩,
  ⟨some 12, none, .mov (.t 21)⟩]
def c54_b0 : AC := .seq (.ops c54_r2 false) (.seq (.cond (.t 13) (.skip) (.exit 0)) (.seq (.block 1 (.seq (.ops c54_r3 false) (.seq (.ops c54_r4 false) (.cond (.t 18) (.ops c54_r5 false) (.skip))))) (.ops c54_r6 false)))
@[simp] def c54_r7 : List AOper := [⟨some 22, none, .mov (.t 4)⟩,
  ⟨some 4, none, .mov (.t 22)⟩]
@[simp] def c54 : AFn := ⟨23, [.tmp 4], .seq (.ops c54_r0 false) (.seq (.seq (.ops c54_r1 false) (.block 0 (.loop c54_b0 [1, 4, 10, 11, 12] []))) (.seq (.ops c54_r7 false) (.ret)))⟩

/-- (*shackle papers.paper).means -/
@[simp] def c55_r0 : List AOper := [⟨some 4, none, .mov (.int .i64 0)⟩]
@[simp] def c55_r1 : List AOper := [⟨some 5, none, .mov (.t 0)⟩,
  ⟨some 6, none, .mov (.t 1)⟩,
  ⟨some 7, none, .call 54 [.t 5, .t 6] []⟩]
@[simp] def c55_r2 : List AOper := [⟨some 9, none, .mov (.t 0)⟩,
  ⟨some 10, none, .nilc (.t 9)⟩,
  ⟨some 11, none, .fld 1 (.t 10)⟩,
  ⟨some 12, none, .ldi 1 false (.t 11)⟩,
  ⟨some 13, none, .len (.t 12)⟩,
  ⟨some 14, none, .bin .eql (.t 7) (.t 13)⟩,
  ⟨some 8, none, .mov (.t 14)⟩]
@[simp] def c55_r3 : List AOper := [⟨some 4, none, .mov (.int .i64 1)⟩]
@[simp] def c55_r4 : List AOper := [⟨some 16, none, .bin .eql (.t 7) (.int .i64 0)⟩,
  ⟨some 15, none, .mov (.t 16)⟩]
@[simp] def c55_r5 : List AOper := [⟨some 4, none, .mov (.int .i64 2)⟩]
@[simp] def c55_r6 : List AOper := [⟨some 4, none, .mov (.int .i64 3)⟩]
@[simp] def c55 : AFn := ⟨17, [.tmp 4], .seq (.ops c55_r0 false) (.seq (.seq (.ops c55_r1 false) (.block 0 (.seq (.ops c55_r2 false) (.cond (.t 8) (.seq (.ops c55_r3 false) (.ret)) (.seq (.ops c55_r4 false) (.cond (.t 15) (.seq (.ops c55_r5 false) (.ret)) (.skip))))))) (.seq (.ops c55_r6 false) (.ret)))⟩

/-- shackle shackleref01.Known -/
@[simp] def c56_r0 : List AOper := [⟨some 4, none, .mov (.int .i64 0)⟩]
@[simp] def c56_r1 : List AOper := [⟨some 5, none, .mov (.t 0)⟩]
@[simp] def c56_r2 : List AOper := [⟨some 7, none, .mov (.t 1)⟩,
  ⟨some 8, none, .bin .eql (.t 5) (.t 7)⟩,
  ⟨some 6, none, .mov (.t 8)⟩]
@[simp] def c56_r3 : List AOper := [⟨some 4, none, .mov (.int .i64 1)⟩]
@[simp] def c56_r4 : List AOper := [⟨some 10, none, .bin .eql (.t 5) (.int .i64 0)⟩,
  ⟨some 9, none, .mov (.t 10)⟩]
@[simp] def c56_r5 : List AOper := [⟨some 4, none, .mov (.int .i64 2)⟩]
@[simp] def c56_r6 : List AOper := [⟨some 4, none, .mov (.int .i64 3)⟩]
@[simp] def c56 : AFn := ⟨11, [.tmp 4], .seq (.ops c56_r0 false) (.seq (.seq (.ops c56_r1 false) (.block 0 (.seq (.ops c56_r2 false) (.cond (.t 6) (.seq (.ops c56_r3 false) (.ret)) (.seq (.ops c56_r4 false) (.cond (.t 9) (.seq (.ops c56_r5 false) (.ret)) (.skip))))))) (.seq (.ops c56_r6 false) (.ret)))⟩

/-- shackle shackleref13.count -/
@[simp] def c57_r0 : List AOper := [⟨some 2, none, .boxi (.t 0)⟩,
  ⟨some 3, none, .boxi (.t 1)⟩,
  ⟨some 4, none, .mov (.int .i64 0)⟩]
@[simp] def c57_r1 : List AOper := [⟨some 5, none, .mov (.int .i64 0)⟩]
@[simp] def c57_r2 : List AOper := [⟨some 8, none, .ldi 2 true (.t 2)⟩,
  ⟨some 9, none, .call 25 [.t 8] []⟩,
  ⟨some 6, none, .mov (.t 9)⟩]
@[simp] def c57_r3 : List AOper := [⟨some 7, none, .mov (.int .i64 0)⟩]
@[simp] def c57_r4 : List AOper := [⟨some 10, none, .mov (.t 7)⟩,
  ⟨some 11, none, .mov (.t 6)⟩,
  ⟨some 12, none, .len (.t 11)⟩,
  ⟨some 13, none, .bin .lss (.t 10) (.t 12)⟩]
@[simp] def c57_r6 : List AOper := [⟨some 16, none, .ldi 2 true (.t 3)⟩,
  ⟨some 17, none, .mov (.t 6)⟩,
  ⟨some 18, none, .mov (.t 7)⟩,
  ⟨some 19, none, .ixi 1 (.t 17) (.t 18)⟩,
  ⟨some 20, none, .ldi 1 false (.t 19)⟩,
  ⟨some 21, none, .call 38 [.t 16, .t 20] []⟩]
@[simp] def c57_r7 : List AOper := [⟨some 22, none, .mov (.t 5)⟩,
  ⟨some 23, none, .bin .add (.t 22) (.int .i64 1)⟩,
  ⟨some 5, none, .mov (.t 23)⟩]
@[simp] def c57_r5 : List AOper := [⟨some 14, none, .mov (.t 7)⟩,
  ⟨some 15, none, .bin .add (.t 14) (.int .i64 1)⟩,
  ⟨some 7, none, .mov (.t 15)⟩]
def c57_b0 : AC := .seq (.seq (.ops c57_r4 false) (.cond (.t 13) (.skip) (.exit 0))) (.seq (.block 1 (.seq (.ops c57_r6 true) (.cond (.t 21) (.ops c57_r7 false) (.skip)))) (.ops c57_r5 false))
@[simp] def c57_r8 : List AOper := [⟨some 24, none, .mov (.t 5)⟩,
  ⟨some 4, none, .mov (.t 24)⟩]
@[simp] def c57 : AFn := ⟨25, [.tmp 4], .seq (.ops c57_r0 false) (.seq (.ops c57_r1 false) (.seq (.ops c57_r2 false) (.seq (.seq (.ops c57_r3 false) (.block 0 (.loop c57_b0 [3, 5, 6, 7] []))) (.seq (.ops c57_r8 false) (.ret)))))⟩

/-- shackle shackleref13.facts -/
@[simp] def c58_r0 : List AOper := [⟨some 1, none, .boxi (.t 0)⟩,
  ⟨some 2, none, .mov (.bool false)⟩]
@[simp] def c58_r1 : List AOper := [⟨some 3, none, .mov (.int .i64 0)⟩]
@[simp] def c58_r2 : List AOper := [⟨some 4, none, .mov (.t 3)⟩,
  ⟨some 5, none, .fld 1 (.t 1)⟩,
  ⟨some 6, none, .ldi 1 false (.t 5)⟩,
  ⟨some 7, none, .len (.t 6)⟩,
  ⟨some 8, none, .bin .lss (.t 4) (.t 7)⟩]
@[simp] def c58_r4 : List AOper := [⟨some 11, none, .fld 1 (.t 1)⟩,
  ⟨some 12, none, .ldi 1 false (.t 11)⟩,
  ⟨some 13, none, .mov (.t 3)⟩,
  ⟨some 14, none, .ixi 1 (.t 12) (.t 13)⟩,
  ⟨some 15, none, .ldi 1 false (.t 14)⟩,
  ⟨some 16, none, .call 42 [.t 15, .int .i64 1, .int .i64 3] []⟩,
  ⟨some 17, none, .not (.t 16)⟩]
@[simp] def c58_r5 : List AOper := [⟨some 2, none, .mov (.bool false)⟩]
@[simp] def c58_r3 : List AOper := [⟨some 9, none, .mov (.t 3)⟩,
  ⟨some 10, none, .bin .add (.t 9) (.int .i64 1)⟩,
  ⟨some 3, none, .mov (.t 10)⟩]
def c58_b0 : AC := .seq (.seq (.ops c58_r2 false) (.cond (.t 8) (.skip) (.exit 0))) (.seq (.block 1 (.seq (.ops c58_r4 false) (.cond (.t 17) (.seq (.ops c58_r5 false) (.ret)) (.skip)))) (.ops c58_r3 false))
@[simp] def c58_r6 : List AOper := [⟨some 18, none, .fld 1 (.t 1)⟩,
  ⟨some 19, none, .ldi 1 false (.t 18)⟩,
  ⟨some 20, none, .len (.t 19)⟩,
  ⟨some 21, none, .bin .leq (.t 20) (.int .i64 6)⟩,
  ⟨some 2, none, .mov (.t 21)⟩]
@[simp] def c58 : AFn := ⟨22, [.tmp 2], .seq (.ops c58_r0 false) (.seq (.seq (.ops c58_r1 false) (.block 0 (.loop c58_b0 [1, 3] []))) (.seq (.ops c58_r6 false) (.ret)))⟩

/-- shackle shackleref13.read -/
@[simp] def c59_r0 : List AOper := [⟨some 4, none, .mov (.nil 2)⟩]
@[simp] def c59_r1 : List AOper := [⟨some 5, none, .nilo 5 56 2⟩]
@[simp] def c59_r2 : List AOper := [⟨some 14, none, .mov (.t 0)⟩,
  ⟨some 15, none, .len (.t 14)⟩,
  ⟨some 16, none, .bin .eql (.t 15) (.int .i64 1)⟩]
@[simp] def c59_r3 : List AOper := [⟨some 6, none, .mov (.int .i64 0)⟩]
@[simp] def c59_r4 : List AOper := [⟨some 17, none, .mov (.t 6)⟩,
  ⟨some 18, none, .mov (.t 1)⟩,
  ⟨some 19, none, .bin .lss (.t 17) (.t 18)⟩]
@[simp] def c59_r6 : List AOper := [⟨some 22, none, .mov (.t 0)⟩,
  ⟨some 23, none, .ixi 1 (.t 22) (.int .i64 0)⟩,
  ⟨some 24, none, .ldi 1 false (.t 23)⟩,
  ⟨some 25, none, .mov (.t 6)⟩,
  ⟨some 26, none, .bin .add (.int .i64 97) (.t 25)⟩,
  ⟨some 27, none, .cvi .u8 (.t 26)⟩,
  ⟨some 28, none, .bsl 1 [.t 27]⟩,
  ⟨some 29, none, .b2s (.t 28)⟩,
  ⟨some 30, none, .bin .eql (.t 24) (.t 29)⟩]
@[simp] def c59_r7 : List AOper := [⟨some 31, none, .mov (.t 5)⟩,
  ⟨some 32, none, .mov (.t 0)⟩,
  ⟨some 33, none, .ixi 1 (.t 32) (.int .i64 0)⟩,
  ⟨some 34, none, .ldi 1 false (.t 33)⟩,
  ⟨some 35, none, .mov (.t 6)⟩,
  ⟨some 36, none, .call 65 [.t 35] []⟩,
  ⟨some 37, none, .bld [.str [], .int .u64 0] [(0, 1, .t 34), (1, 1, .t 36)]⟩,
  ⟨some 38, none, .bsl 2 [.t 37]⟩,
  ⟨some 39, none, .app 5 56 2 24 (.t 31) (.t 38)⟩,
  ⟨some 5, none, .mov (.t 39)⟩]
@[simp] def c59_r5 : List AOper := [⟨some 20, none, .mov (.t 6)⟩,
  ⟨some 21, none, .bin .add (.t 20) (.int .i64 1)⟩,
  ⟨some 6, none, .mov (.t 21)⟩]
def c59_b0 : AC := .seq (.seq (.ops c59_r4 false) (.cond (.t 19) (.skip) (.exit 0))) (.seq (.block 1 (.seq (.ops c59_r6 true) (.cond (.t 30) (.ops c59_r7 true) (.skip)))) (.ops c59_r5 false))
@[simp] def c59_r8 : List AOper := [⟨some 40, none, .mov (.t 5)⟩,
  ⟨some 4, none, .mov (.t 40)⟩]
@[simp] def c59_r9 : List AOper := [⟨some 41, none, .mov (.t 0)⟩,
  ⟨some 42, none, .len (.t 41)⟩,
  ⟨some 43, none, .bin .gtr (.t 42) (.int .i64 1)⟩,
  ⟨some 44, none, .mov (.t 43)⟩,
  ⟨some 45, (some (44, true)), .mov (.t 0)⟩,
  ⟨some 46, (some (44, true)), .ixi 1 (.t 45) (.int .i64 0)⟩,
  ⟨some 47, (some (44, true)), .ldi 1 false (.t 46)⟩,
  ⟨some 48, (some (44, true)), .bin .eql (.t 47) (.str [110, 111, 116])⟩,
  ⟨some 49, none, .pick (.t 44) (.t 48) (.bool false)⟩]
@[simp] def c59_r10 : List AOper := [⟨some 50, none, .mov (.t 0)⟩,
  ⟨some 51, none, .sli 1 (.t 50) (some (.int .i64 1)) none⟩,
  ⟨some 52, none, .mov (.t 1)⟩,
  ⟨some 53, none, .call 59 [.t 51, .t 52] []⟩,
  ⟨some 7, none, .mov (.t 53)⟩]
@[simp] def c59_r11 : List AOper := [⟨some 8, none, .mov (.int .i64 0)⟩]
@[simp] def c59_r12 : List AOper := [⟨some 54, none, .mov (.t 8)⟩,
  ⟨some 55, none, .mov (.t 7)⟩,
  ⟨some 56, none, .len (.t 55)⟩,
  ⟨some 57, none, .bin .lss (.t 54) (.t 56)⟩]
@[simp] def c59_r14 : List AOper := [⟨some 60, none, .mov (.t 5)⟩,
  ⟨some 61, none, .mov (.t 7)⟩,
  ⟨some 62, none, .mov (.t 8)⟩,
  ⟨some 63, none, .ixi 2 (.t 61) (.t 62)⟩,
  ⟨some 64, none, .fld 0 (.t 63)⟩,
  ⟨some 65, none, .ldi 1 false (.t 64)⟩,
  ⟨some 66, none, .bin .add (.str [40, 110, 111, 116, 32]) (.t 65)⟩,
  ⟨some 67, none, .bin .add (.t 66) (.str [41])⟩,
  ⟨some 68, none, .mov (.t 7)⟩,
  ⟨some 69, none, .mov (.t 8)⟩,
  ⟨some 70, none, .ixi 2 (.t 68) (.t 69)⟩,
  ⟨some 71, none, .fld 1 (.t 70)⟩,
  ⟨some 72, none, .ldi 1 false (.t 71)⟩,
  ⟨some 73, none, .bin .xor (.int .u64 18446744073709551615) (.t 72)⟩,
  ⟨some 74, none, .bld [.str [], .int .u64 0] [(0, 1, .t 67), (1, 1, .t 73)]⟩,
  ⟨some 75, none, .bsl 2 [.t 74]⟩,
  ⟨some 76, none, .app 5 56 2 24 (.t 60) (.t 75)⟩,
  ⟨some 5, none, .mov (.t 76)⟩]
@[simp] def c59_r13 : List AOper := [⟨some 58, none, .mov (.t 8)⟩,
  ⟨some 59, none, .bin .add (.t 58) (.int .i64 1)⟩,
  ⟨some 8, none, .mov (.t 59)⟩]
def c59_b1 : AC := .seq (.seq (.ops c59_r12 false) (.cond (.t 57) (.skip) (.exit 2))) (.seq (.block 3 (.ops c59_r14 true)) (.ops c59_r13 false))
@[simp] def c59_r15 : List AOper := [⟨some 9, none, .mov (.int .i64 1)⟩]
@[simp] def c59_r16 : List AOper := [⟨some 77, none, .mov (.t 9)⟩,
  ⟨some 78, none, .mov (.t 0)⟩,
  ⟨some 79, none, .len (.t 78)⟩,
  ⟨some 80, none, .bin .sub (.t 79) (.int .i64 1)⟩,
  ⟨some 81, none, .bin .lss (.t 77) (.t 80)⟩]
@[simp] def c59_r18 : List AOper := [⟨some 84, none, .mov (.t 0)⟩,
  ⟨some 85, none, .mov (.t 9)⟩,
  ⟨some 86, none, .ixi 1 (.t 84) (.t 85)⟩,
  ⟨some 87, none, .ldi 1 false (.t 86)⟩,
  ⟨some 88, none, .call 66 [.t 87] []⟩,
  ⟨some 89, none, .not (.t 88)⟩]
@[simp] def c59_r19 : List AOper := [⟨some 90, none, .mov (.t 0)⟩,
  ⟨some 91, none, .mov (.t 9)⟩,
  ⟨some 92, none, .sli 1 (.t 90) none (some (.t 91))⟩,
  ⟨some 93, none, .mov (.t 1)⟩,
  ⟨some 94, none, .call 59 [.t 92, .t 93] []⟩,
  ⟨some 95, none, .mov (.t 0)⟩,
  ⟨some 96, none, .mov (.t 9)⟩,
  ⟨some 97, none, .bin .add (.t 96) (.int .i64 1)⟩,
  ⟨some 98, none, .sli 1 (.t 95) (some (.t 97)) none⟩,
  ⟨some 99, none, .mov (.t 1)⟩,
  ⟨some 100, none, .call 59 [.t 98, .t 99] []⟩,
  ⟨some 10, none, .mov (.t 94)⟩,
  ⟨some 11, none, .mov (.t 100)⟩]
@[simp] def c59_r20 : List AOper := [⟨some 12, none, .mov (.int .i64 0)⟩]
@[simp] def c59_r21 : List AOper := [⟨some 101, none, .mov (.t 12)⟩,
  ⟨some 102, none, .mov (.t 10)⟩,
  ⟨some 103, none, .len (.t 102)⟩,
  ⟨some 104, none, .bin .lss (.t 101) (.t 103)⟩]
@[simp] def c59_r23 : List AOper := [⟨some 13, none, .mov (.int .i64 0)⟩]
@[simp] def c59_r24 : List AOper := [⟨some 107, none, .mov (.t 13)⟩,
  ⟨some 108, none, .mov (.t 11)⟩,
  ⟨some 109, none, .len (.t 108)⟩,
  ⟨some 110, none, .bin .lss (.t 107) (.t 109)⟩]
@[simp] def c59_r26 : List AOper := [⟨some 113, none, .mov (.t 5)⟩,
  ⟨some 114, none, .mov (.t 10)⟩,
  ⟨some 115, none, .mov (.t 12)⟩,
  ⟨some 116, none, .ixi 2 (.t 114) (.t 115)⟩,
  ⟨some 117, none, .fld 0 (.t 116)⟩,
  ⟨some 118, none, .ldi 1 false (.t 117)⟩,
  ⟨some 119, none, .bin .add (.str [40]) (.t 118)⟩,
  ⟨some 120, none, .bin .add (.t 119) (.str [32])⟩,
  ⟨some 121, none, .mov (.t 0)⟩,
  ⟨some 122, none, .mov (.t 9)⟩,
  ⟨some 123, none, .ixi 1 (.t 121) (.t 122)⟩,
  ⟨some 124, none, .ldi 1 false (.t 123)⟩,
  ⟨some 125, none, .bin .add (.t 120) (.t 124)⟩,
  ⟨some 126, none, .bin .add (.t 125) (.str [32])⟩,
  ⟨some 127, none, .mov (.t 11)⟩,
  ⟨some 128, none, .mov (.t 13)⟩,
  ⟨some 129, none, .ixi 2 (.t 127) (.t 128)⟩,
  ⟨some 130, none, .fld 0 (.t 129)⟩,
  ⟨some 131, none, .ldi 1 false (.t 130)⟩,
  ⟨some 132, none, .bin .add (.t 126) (.t 131)⟩,
  ⟨some 133, none, .bin .add (.t 132) (.str [41])⟩,
  ⟨some 134, none, .mov (.t 0)⟩,
  ⟨some 135, none, .mov (.t 9)⟩,
  ⟨some 136, none, .ixi 1 (.t 134) (.t 135)⟩,
  ⟨some 137, none, .ldi 1 false (.t 136)⟩,
  ⟨some 138, none, .mov (.t 10)⟩,
  ⟨some 139, none, .mov (.t 12)⟩,
  ⟨some 140, none, .ixi 2 (.t 138) (.t 139)⟩,
  ⟨some 141, none, .fld 1 (.t 140)⟩,
  ⟨some 142, none, .ldi 1 false (.t 141)⟩,
  ⟨some 143, none, .mov (.t 11)⟩,
  ⟨some 144, none, .mov (.t 13)⟩,
  ⟨some 145, none, .ixi 2 (.t 143) (.t 144)⟩,
  ⟨some 146, none, .fld 1 (.t 145)⟩,
  ⟨some 147, none, .ldi 1 false (.t 146)⟩,
  ⟨some 148, none, .call 67 [.t 137, .t 142, .t 147] []⟩,
  ⟨some 149, none, .bld [.str [], .int .u64 0] [(0, 1, .t 133), (1, 1, .t 148)]⟩,
  ⟨some 150, none, .bsl 2 [.t 149]⟩,
  ⟨some 151, none, .app 5 56 2 24 (.t 113) (.t 150)⟩,
  ⟨some 5, none, .mov (.t 151)⟩]
@[simp] def c59_r25 : List AOper := [⟨some 111, none, .mov (.t 13)⟩,
  ⟨some 112, none, .bin .add (.t 111) (.int .i64 1)⟩,
  ⟨some 13, none, .mov (.t 112)⟩]
def c59_b2 : AC := .seq (.seq (.ops c59_r24 false) (.cond (.t 110) (.skip) (.exit 8))) (.seq (.block 9 (.ops c59_r26 true)) (.ops c59_r25 false))
@[simp] def c59_r22 : List AOper := [⟨some 105, none, .mov (.t 12)⟩,
  ⟨some 106, none, .bin .add (.t 105) (.int .i64 1)⟩,
  ⟨some 12, none, .mov (.t 106)⟩]
def c59_b3 : AC := .seq (.seq (.ops c59_r21 false) (.cond (.t 104) (.skip) (.exit 6))) (.seq (.block 7 (.seq (.ops c59_r23 false) (.block 8 (.loop c59_b2 [0, 1, 5, 9, 10, 11, 12, 13] [5])))) (.ops c59_r22 false))
@[simp] def c59_r17 : List AOper := [⟨some 82, none, .mov (.t 9)⟩,
  ⟨some 83, none, .bin .add (.t 82) (.int .i64 1)⟩,
  ⟨some 9, none, .mov (.t 83)⟩]
def c59_b4 : AC := .seq (.seq (.ops c59_r16 false) (.cond (.t 81) (.skip) (.exit 4))) (.seq (.block 5 (.seq (.seq (.ops c59_r18 false) (.cond (.t 89) (.exit 5) (.skip))) (.seq (.ops c59_r19 true) (.seq (.ops c59_r20 false) (.block 6 (.loop c59_b3 [0, 1, 5, 9, 10, 11, 12] [5])))))) (.ops c59_r17 false))
@[simp] def c59_r27 : List AOper := [⟨some 152, none, .mov (.t 5)⟩,
  ⟨some 4, none, .mov (.t 152)⟩]
@[simp] def c59 : AFn := ⟨153, [.tmp 4], .seq (.ops c59_r0 false) (.seq (.ops c59_r1 false) (.seq (.seq (.ops c59_r2 false) (.cond (.t 16) (.seq (.seq (.ops c59_r3 false) (.block 0 (.loop c59_b0 [0, 1, 5, 6] [5]))) (.seq (.ops c59_r8 false) (.ret))) (.skip))) (.seq (.seq (.ops c59_r9 false) (.cond (.t 49) (.seq (.ops c59_r10 false) (.seq (.ops c59_r11 false) (.block 2 (.loop c59_b1 [0, 1, 5, 7, 8] [5])))) (.skip))) (.seq (.seq (.ops c59_r15 false) (.block 4 (.loop c59_b4 [0, 1, 5, 9] [5]))) (.seq (.ops c59_r27 false) (.ret))))))⟩

/-- shackle shackleref01.In -/
@[simp] def c60_r0 : List AOper := [⟨some 4, none, .mov (.bool false)⟩]
@[simp] def c60_r1 : List AOper := [⟨some 5, none, .mov (.int .i64 0)⟩]
@[simp] def c60_r2 : List AOper := [⟨some 6, none, .mov (.t 5)⟩,
  ⟨some 7, none, .mov (.t 0)⟩,
  ⟨some 8, none, .len (.t 7)⟩,
  ⟨some 9, none, .bin .lss (.t 6) (.t 8)⟩]
@[simp] def c60_r4 : List AOper := [⟨some 12, none, .mov (.t 0)⟩,
  ⟨some 13, none, .mov (.t 5)⟩,
  ⟨some 14, none, .ixi 1 (.t 12) (.t 13)⟩,
  ⟨some 15, none, .ldi 1 false (.t 14)⟩,
  ⟨some 16, none, .mov (.t 1)⟩,
  ⟨some 17, none, .bin .eql (.t 15) (.t 16)⟩]
@[simp] def c60_r5 : List AOper := [⟨some 4, none, .mov (.bool true)⟩]
@[simp] def c60_r3 : List AOper := [⟨some 10, none, .mov (.t 5)⟩,
  ⟨some 11, none, .bin .add (.t 10) (.int .i64 1)⟩,
  ⟨some 5, none, .mov (.t 11)⟩]
def c60_b0 : AC := .seq (.seq (.ops c60_r2 false) (.cond (.t 9) (.skip) (.exit 0))) (.seq (.block 1 (.seq (.ops c60_r4 false) (.cond (.t 17) (.seq (.ops c60_r5 false) (.ret)) (.skip)))) (.ops c60_r3 false))
@[simp] def c60_r6 : List AOper := [⟨some 4, none, .mov (.bool false)⟩]
@[simp] def c60 : AFn := ⟨18, [.tmp 4], .seq (.ops c60_r0 false) (.seq (.seq (.ops c60_r1 false) (.block 0 (.loop c60_b0 [0, 1, 5] []))) (.seq (.ops c60_r6 false) (.ret)))⟩

/-- (*shackle papers.reading).value -/
@[simp] def c61_r0 : List AOper := [⟨some 4, none, .mov (.bool false)⟩]
@[simp] def c61_r1 : List AOper := [⟨some 5, none, .mov (.t 0)⟩,
  ⟨some 6, none, .nilc (.t 5)⟩,
  ⟨some 7, none, .fld 1 (.t 6)⟩,
  ⟨some 8, none, .ldi 1 false (.t 7)⟩]
@[simp] def c61_r2 : List AOper := [⟨some 10, none, .bin .eql (.t 8) (.str [110, 111, 116])⟩,
  ⟨some 9, none, .mov (.t 10)⟩]
@[simp] def c61_r3 : List AOper := [⟨some 11, none, .mov (.t 0)⟩,
  ⟨some 12, none, .nilc (.t 11)⟩,
  ⟨some 13, none, .fld 3 (.t 12)⟩,
  ⟨some 14, none, .ldi 1 false (.t 13)⟩,
  ⟨some 15, none, .mov (.t 1)⟩,
  ⟨some 16, none, .call 61 [.t 14, .t 15] []⟩,
  ⟨some 17, none, .not (.t 16)⟩,
  ⟨some 4, none, .mov (.t 17)⟩]
@[simp] def c61_r4 : List AOper := [⟨some 19, none, .bin .eql (.t 8) (.str [97, 110, 100])⟩,
  ⟨some 18, none, .mov (.t 19)⟩]
@[simp] def c61_r5 : List AOper := [⟨some 20, none, .mov (.t 0)⟩,
  ⟨some 21, none, .nilc (.t 20)⟩,
  ⟨some 22, none, .fld 2 (.t 21)⟩,
  ⟨some 23, none, .ldi 1 false (.t 22)⟩,
  ⟨some 24, none, .mov (.t 1)⟩,
  ⟨some 25, none, .call 61 [.t 23, .t 24] []⟩,
  ⟨some 26, none, .mov (.t 25)⟩,
  ⟨some 27, (some (26, true)), .mov (.t 0)⟩,
  ⟨some 28, (some (26, true)), .nilc (.t 27)⟩,
  ⟨some 29, (some (26, true)), .fld 3 (.t 28)⟩,
  ⟨some 30, (some (26, true)), .ldi 1 false (.t 29)⟩,
  ⟨some 31, (some (26, true)), .mov (.t 1)⟩,
  ⟨some 32, (some (26, true)), .call 61 [.t 30, .t 31] []⟩,
  ⟨some 33, none, .pick (.t 26) (.t 32) (.bool false)⟩,
  ⟨some 4, none, .mov (.t 33)⟩]
@[simp] def c61_r6 : List AOper := [⟨some 35, none, .bin .eql (.t 8) (.str [111, 114])⟩,
  ⟨some 34, none, .mov (.t 35)⟩]
@[simp] def c61_r7 : List AOper := [⟨some 36, none, .mov (.t 0)⟩,
  ⟨some 37, none, .nilc (.t 36)⟩,
  ⟨some 38, none, .fld 2 (.t 37)⟩,
  ⟨some 39, none, .ldi 1 false (.t 38)⟩,
  ⟨some 40, none, .mov (.t 1)⟩,
  ⟨some 41, none, .call 61 [.t 39, .t 40] []⟩,
  ⟨some 42, none, .mov (.t 41)⟩,
  ⟨some 43, (some (42, false)), .mov (.t 0)⟩,
  ⟨some 44, (some (42, false)), .nilc (.t 43)⟩,
  ⟨some 45, (some (42, false)), .fld 3 (.t 44)⟩,
  ⟨some 46, (some (42, false)), .ldi 1 false (.t 45)⟩,
  ⟨some 47, (some (42, false)), .mov (.t 1)⟩,
  ⟨some 48, (some (42, false)), .call 61 [.t 46, .t 47] []⟩,
  ⟨some 49, none, .pick (.t 42) (.bool true) (.t 48)⟩,
  ⟨some 4, none, .mov (.t 49)⟩]
@[simp] def c61_r8 : List AOper := [⟨some 51, none, .bin .eql (.t 8) (.str [105, 102])⟩,
  ⟨some 50, none, .mov (.t 51)⟩]
@[simp] def c61_r9 : List AOper := [⟨some 52, none, .mov (.t 0)⟩,
  ⟨some 53, none, .nilc (.t 52)⟩,
  ⟨some 54, none, .fld 2 (.t 53)⟩,
  ⟨some 55, none, .ldi 1 false (.t 54)⟩,
  ⟨some 56, none, .mov (.t 1)⟩,
  ⟨some 57, none, .call 61 [.t 55, .t 56] []⟩,
  ⟨some 58, none, .mov (.t 57)⟩,
  ⟨some 59, (some (58, false)), .mov (.t 0)⟩,
  ⟨some 60, (some (58, false)), .nilc (.t 59)⟩,
  ⟨some 61, (some (58, false)), .fld 3 (.t 60)⟩,
  ⟨some 62, (some (58, false)), .ldi 1 false (.t 61)⟩,
  ⟨some 63, (some (58, false)), .mov (.t 1)⟩,
  ⟨some 64, (some (58, false)), .call 61 [.t 62, .t 63] []⟩,
  ⟨some 65, (some (58, false)), .not (.t 64)⟩,
  ⟨some 66, none, .pick (.t 58) (.bool true) (.t 65)⟩,
  ⟨some 4, none, .mov (.t 66)⟩]
@[simp] def c61_r10 : List AOper := [⟨some 67, none, .mov (.t 1)⟩,
  ⟨some 68, none, .mov (.t 0)⟩,
  ⟨some 69, none, .nilc (.t 68)⟩,
  ⟨some 70, none, .fld 0 (.t 69)⟩,
  ⟨some 71, none, .ldi 1 false (.t 70)⟩,
  ⟨some 72, none, .bin .shr (.t 67) (.t 71)⟩,
  ⟨some 73, none, .bin .and (.t 72) (.int .u64 1)⟩,
  ⟨some 74, none, .bin .eql (.t 73) (.int .u64 1)⟩,
  ⟨some 4, none, .mov (.t 74)⟩]
@[simp] def c61 : AFn := ⟨75, [.tmp 4], .seq (.ops c61_r0 false) (.seq (.seq (.ops c61_r1 false) (.block 0 (.seq (.ops c61_r2 false) (.cond (.t 9) (.seq (.ops c61_r3 false) (.ret)) (.seq (.ops c61_r4 false) (.cond (.t 18) (.seq (.ops c61_r5 false) (.ret)) (.seq (.ops c61_r6 false) (.cond (.t 34) (.seq (.ops c61_r7 false) (.ret)) (.seq (.ops c61_r8 false) (.cond (.t 50) (.seq (.ops c61_r9 false) (.ret)) (.skip))))))))))) (.seq (.ops c61_r10 false) (.ret)))⟩

/-- shackle shackleref01.Subset -/
@[simp] def c62_r0 : List AOper := [⟨some 4, none, .mov (.bool false)⟩]
@[simp] def c62_r1 : List AOper := [⟨some 5, none, .mov (.int .i64 0)⟩]
@[simp] def c62_r2 : List AOper := [⟨some 6, none, .mov (.t 5)⟩,
  ⟨some 7, none, .mov (.t 0)⟩,
  ⟨some 8, none, .len (.t 7)⟩,
  ⟨some 9, none, .bin .lss (.t 6) (.t 8)⟩]
@[simp] def c62_r4 : List AOper := [⟨some 12, none, .mov (.t 1)⟩,
  ⟨some 13, none, .mov (.t 0)⟩,
  ⟨some 14, none, .mov (.t 5)⟩,
  ⟨some 15, none, .ixi 1 (.t 13) (.t 14)⟩,
  ⟨some 16, none, .ldi 1 false (.t 15)⟩,
  ⟨some 17, none, .call 60 [.t 12, .t 16] []⟩,
  ⟨some 18, none, .not (.t 17)⟩]
@[simp] def c62_r5 : List AOper := [⟨some 4, none, .mov (.bool false)⟩]
@[simp] def c62_r3 : List AOper := [⟨some 10, none, .mov (.t 5)⟩,
  ⟨some 11, none, .bin .add (.t 10) (.int .i64 1)⟩,
  ⟨some 5, none, .mov (.t 11)⟩]
def c62_b0 : AC := .seq (.seq (.ops c62_r2 false) (.cond (.t 9) (.skip) (.exit 0))) (.seq (.block 1 (.seq (.ops c62_r4 false) (.cond (.t 18) (.seq (.ops c62_r5 false) (.ret)) (.skip)))) (.ops c62_r3 false))
@[simp] def c62_r6 : List AOper := [⟨some 19, none, .mov (.t 0)⟩,
  ⟨some 20, none, .len (.t 19)⟩,
  ⟨some 21, none, .mov (.t 1)⟩,
  ⟨some 22, none, .len (.t 21)⟩,
  ⟨some 23, none, .bin .leq (.t 20) (.t 22)⟩,
  ⟨some 4, none, .mov (.t 23)⟩]
@[simp] def c62 : AFn := ⟨24, [.tmp 4], .seq (.ops c62_r0 false) (.seq (.seq (.ops c62_r1 false) (.block 0 (.loop c62_b0 [0, 1, 5] []))) (.seq (.ops c62_r6 false) (.ret)))⟩

/-- shackle papers.readings -/
@[simp] def c64_r0 : List AOper := [⟨some 4, none, .mov (.nil 1)⟩]
@[simp] def c64_r1 : List AOper := [⟨some 5, none, .nilo 5 69 1⟩]
@[simp] def c64_r2 : List AOper := [⟨some 16, none, .mov (.t 0)⟩,
  ⟨some 17, none, .len (.t 16)⟩,
  ⟨some 18, none, .bin .eql (.t 17) (.int .i64 1)⟩,
  ⟨some 19, none, .mov (.t 18)⟩,
  ⟨some 20, (some (19, true)), .mov (.t 0)⟩,
  ⟨some 21, (some (19, true)), .ixi 1 (.t 20) (.int .i64 0)⟩,
  ⟨some 22, (some (19, true)), .ldi 1 false (.t 21)⟩,
  ⟨some 23, (some (19, true)), .lst (.t 22)⟩,
  ⟨some 24, (some (19, true)), .bin .eql (.t 23) (.int .i64 1)⟩,
  ⟨some 25, none, .pick (.t 19) (.t 24) (.bool false)⟩]
@[simp] def c64_r3 : List AOper := [⟨some 26, none, .mov (.t 0)⟩,
  ⟨some 27, none, .ixi 1 (.t 26) (.int .i64 0)⟩,
  ⟨some 28, none, .ldi 1 false (.t 27)⟩,
  ⟨some 29, none, .ixs (.t 28) (.int .i64 0)⟩,
  ⟨some 30, none, .cvi .i64 (.t 29)⟩,
  ⟨some 31, none, .bin .sub (.t 30) (.int .i64 97)⟩,
  ⟨some 6, none, .mov (.t 31)⟩]
@[simp] def c64_r4 : List AOper := [⟨some 32, none, .mov (.t 6)⟩,
  ⟨some 33, none, .bin .geq (.t 32) (.int .i64 0)⟩,
  ⟨some 34, none, .mov (.t 33)⟩,
  ⟨some 35, (some (34, true)), .mov (.t 6)⟩,
  ⟨some 36, (some (34, true)), .mov (.t 1)⟩,
  ⟨some 37, (some (34, true)), .bin .lss (.t 35) (.t 36)⟩,
  ⟨some 38, none, .pick (.t 34) (.t 37) (.bool false)⟩]
@[simp] def c64_r5 : List AOper := [⟨some 39, none, .mov (.t 6)⟩,
  ⟨some 40, none, .bld [.int .i64 0, .str [], .nilp, .nilp] [(0, 1, .t 39)]⟩,
  ⟨some 41, none, .boxi (.t 40)⟩,
  ⟨some 42, none, .bsl 1 [.t 41]⟩,
  ⟨some 4, none, .mov (.t 42)⟩]
@[simp] def c64_r6 : List AOper := [⟨some 43, none, .mov (.t 0)⟩,
  ⟨some 44, none, .len (.t 43)⟩,
  ⟨some 45, none, .bin .gtr (.t 44) (.int .i64 1)⟩,
  ⟨some 46, none, .mov (.t 45)⟩,
  ⟨some 47, (some (46, true)), .mov (.t 0)⟩,
  ⟨some 48, (some (46, true)), .ixi 1 (.t 47) (.int .i64 0)⟩,
  ⟨some 49, (some (46, true)), .ldi 1 false (.t 48)⟩,
  ⟨some 50, (some (46, true)), .bin .eql (.t 49) (.str [110, 111, 116])⟩,
  ⟨some 51, none, .pick (.t 46) (.t 50) (.bool false)⟩]
@[simp] def c64_r7 : List AOper := [⟨some 52, none, .mov (.t 0)⟩,
  ⟨some 53, none, .sli 1 (.t 52) (some (.int .i64 1)) none⟩,
  ⟨some 54, none, .mov (.t 1)⟩,
  ⟨some 55, none, .call 64 [.t 53, .t 54] []⟩,
  ⟨some 56, none, .len (.t 55)⟩,
  ⟨some 57, none, .mov (.int .i64 0)⟩]
@[simp] def c64_r8 : List AOper := [⟨some 58, none, .bin .lss (.t 57) (.t 56)⟩]
@[simp] def c64_r9 : List AOper := [⟨some 59, none, .ixi 1 (.t 55) (.t 57)⟩,
  ⟨some 60, none, .ldi 1 false (.t 59)⟩,
  ⟨some 8, none, .mov (.t 60)⟩]
@[simp] def c64_r10 : List AOper := [⟨some 61, none, .mov (.t 5)⟩,
  ⟨some 62, none, .mov (.t 8)⟩,
  ⟨some 63, none, .bld [.int .i64 0, .str [], .nilp, .nilp] [(1, 1, .str [110, 111, 116]), (3, 1, .t 62)]⟩,
  ⟨some 64, none, .boxi (.t 63)⟩,
  ⟨some 65, none, .bsl 1 [.t 64]⟩,
  ⟨some 66, none, .app 5 69 1 8 (.t 61) (.t 65)⟩,
  ⟨some 5, none, .mov (.t 66)⟩]
@[simp] def c64_r11 : List AOper := [⟨some 67, none, .bin .add (.t 57) (.int .i64 1)⟩,
  ⟨some 57, none, .mov (.t 67)⟩]
def c64_b0 : AC := .seq (.ops c64_r8 false) (.seq (.cond (.t 58) (.skip) (.exit 0)) (.seq (.block 1 (.seq (.ops c64_r9 false) (.ops c64_r10 false))) (.ops c64_r11 false)))
@[simp] def c64_r12 : List AOper := [⟨some 68, none, .mov (.t 0)⟩,
  ⟨some 69, none, .len (.t 68)⟩,
  ⟨some 70, none, .mov (.int .i64 0)⟩]
@[simp] def c64_r13 : List AOper := [⟨some 71, none, .bin .lss (.t 70) (.t 69)⟩]
@[simp] def c64_r14 : List AOper := [⟨some 72, none, .mov (.t 70)⟩,
  ⟨some 73, none, .ixi 1 (.t 68) (.t 70)⟩,
  ⟨some 74, none, .ldi 1 false (.t 73)⟩,
  ⟨some 9, none, .mov (.t 72)⟩,
  ⟨some 10, none, .mov (.t 74)⟩]
@[simp] def c64_r15 : List AOper := [⟨some 75, none, .mov (.t 9)⟩,
  ⟨some 76, none, .bin .eql (.t 75) (.int .i64 0)⟩,
  ⟨some 77, none, .mov (.t 76)⟩,
  ⟨some 78, (some (77, false)), .mov (.t 9)⟩,
  ⟨some 79, (some (77, false)), .mov (.t 0)⟩,
  ⟨some 80, (some (77, false)), .len (.t 79)⟩,
  ⟨some 81, (some (77, false)), .bin .sub (.t 80) (.int .i64 1)⟩,
  ⟨some 82, (some (77, false)), .bin .eql (.t 78) (.t 81)⟩,
  ⟨some 83, none, .pick (.t 77) (.bool true) (.t 82)⟩,
  ⟨some 84, none, .mov (.t 83)⟩,
  ⟨some 85, (some (84, false)), .mov (.t 10)⟩,
  ⟨some 86, (some (84, false)), .bin .neq (.t 85) (.str [97, 110, 100])⟩,
  ⟨some 87, (some (84, false)), .mov (.t 86)⟩,
  ⟨some 88, (some (87, true)), .mov (.t 10)⟩,
  ⟨some 89, (some (87, true)), .bin .neq (.t 88) (.str [111, 114])⟩,
  ⟨some 90, (some (84, false)), .pick (.t 87) (.t 89) (.bool false)⟩,
  ⟨some 91, (some (84, false)), .mov (.t 90)⟩,
  ⟨some 92, (some (91, true)), .mov (.t 10)⟩,
  ⟨some 93, (some (91, true)), .bin .neq (.t 92) (.str [105, 102])⟩,
  ⟨some 94, (some (84, false)), .pick (.t 91) (.t 93) (.bool false)⟩,
  ⟨some 95, none, .pick (.t 84) (.bool true) (.t 94)⟩]
@[simp] def c64_r16 : List AOper := [⟨some 96, none, .mov (.t 0)⟩,
  ⟨some 97, none, .mov (.t 9)⟩,
  ⟨some 98, none, .bin .add (.t 97) (.int .i64 1)⟩,
  ⟨some 99, none, .sli 1 (.t 96) (some (.t 98)) none⟩,
  ⟨some 100, none, .mov (.t 1)⟩,
  ⟨some 101, none, .call 64 [.t 99, .t 100] []⟩,
  ⟨some 11, none, .mov (.t 101)⟩]
@[simp] def c64_r17 : List AOper := [⟨some 102, none, .mov (.t 11)⟩,
  ⟨some 103, none, .len (.t 102)⟩,
  ⟨some 104, none, .bin .eql (.t 103) (.int .i64 0)⟩]
@[simp] def c64_r18 : List AOper := [⟨some 105, none, .mov (.t 0)⟩,
  ⟨some 106, none, .mov (.t 9)⟩,
  ⟨some 107, none, .sli 1 (.t 105) none (some (.t 106))⟩,
  ⟨some 108, none, .mov (.t 1)⟩,
  ⟨some 109, none, .call 64 [.t 107, .t 108] []⟩,
  ⟨some 110, none, .len (.t 109)⟩,
  ⟨some 111, none, .mov (.int .i64 0)⟩]
@[simp] def c64_r19 : List AOper := [⟨some 112, none, .bin .lss (.t 111) (.t 110)⟩]
@[simp] def c64_r20 : List AOper := [⟨some 113, none, .ixi 1 (.t 109) (.t 111)⟩,
  ⟨some 114, none, .ldi 1 false (.t 113)⟩,
  ⟨some 13, none, .mov (.t 114)⟩]
@[simp] def c64_r21 : List AOper := [⟨some 115, none, .mov (.t 11)⟩,
  ⟨some 116, none, .len (.t 115)⟩,
  ⟨some 117, none, .mov (.int .i64 0)⟩]
@[simp] def c64_r22 : List AOper := [⟨some 118, none, .bin .lss (.t 117) (.t 116)⟩]
@[simp] def c64_r23 : List AOper := [⟨some 119, none, .ixi 1 (.t 115) (.t 117)⟩,
  ⟨some 120, none, .ldi 1 false (.t 119)⟩,
  ⟨some 15, none, .mov (.t 120)⟩]
@[simp] def c64_r24 : List AOper := [⟨some 121, none, .mov (.t 5)⟩,
  ⟨some 122, none, .mov (.t 10)⟩,
  ⟨some 123, none, .mov (.t 13)⟩,
  ⟨some 124, none, .mov (.t 15)⟩,
  ⟨some 125, none, .bld [.int .i64 0, .str [], .nilp, .nilp] [(1, 1, .t 122), (2, 1, .t 123), (3, 1, .t 124)]⟩,
  ⟨some 126, none, .boxi (.t 125)⟩,
  ⟨some 127, none, .bsl 1 [.t 126]⟩,
  ⟨some 128, none, .app 5 69 1 8 (.t 121) (.t 127)⟩,
  ⟨some 5, none, .mov (.t 128)⟩]
@[simp] def c64_r25 : List AOper := [⟨some 129, none, .bin .add (.t 117) (.int .i64 1)⟩,
  ⟨some 117, none, .mov (.t 129)⟩]
def c64_b1 : AC := .seq (.ops c64_r22 false) (.seq (.cond (.t 118) (.skip) (.exit 6)) (.seq (.block 7 (.seq (.ops c64_r23 false) (.ops c64_r24 false))) (.ops c64_r25 false)))
@[simp] def c64_r26 : List AOper := [⟨some 130, none, .bin .add (.t 111) (.int .i64 1)⟩,
  ⟨some 111, none, .mov (.t 130)⟩]
def c64_b2 : AC := .seq (.ops c64_r19 false) (.seq (.cond (.t 112) (.skip) (.exit 4)) (.seq (.block 5 (.seq (.ops c64_r20 false) (.seq (.ops c64_r21 false) (.block 6 (.loop c64_b1 [0, 1, 5, 10, 11, 13, 68, 69, 70, 109, 110, 111, 115, 116, 117] [5]))))) (.ops c64_r26 false)))
@[simp] def c64_r27 : List AOper := [⟨some 131, none, .bin .add (.t 70) (.int .i64 1)⟩,
  ⟨some 70, none, .mov (.t 131)⟩]
def c64_b3 : AC := .seq (.ops c64_r13 false) (.seq (.cond (.t 71) (.skip) (.exit 2)) (.seq (.block 3 (.seq (.ops c64_r14 false) (.seq (.seq (.ops c64_r15 false) (.cond (.t 95) (.exit 3) (.skip))) (.seq (.ops c64_r16 false) (.seq (.seq (.ops c64_r17 false) (.cond (.t 104) (.exit 3) (.skip))) (.seq (.ops c64_r18 false) (.block 4 (.loop c64_b2 [0, 1, 5, 10, 11, 68, 69, 70, 109, 110, 111] [5])))))))) (.ops c64_r27 false)))
@[simp] def c64_r28 : List AOper := [⟨some 132, none, .mov (.t 5)⟩,
  ⟨some 4, none, .mov (.t 132)⟩]
@[simp] def c64 : AFn := ⟨133, [.tmp 4], .seq (.ops c64_r0 false) (.seq (.ops c64_r1 false) (.seq (.seq (.ops c64_r2 false) (.cond (.t 25) (.seq (.ops c64_r3 false) (.seq (.ops c64_r4 false) (.cond (.t 38) (.seq (.ops c64_r5 false) (.ret)) (.skip)))) (.skip))) (.seq (.seq (.ops c64_r6 false) (.cond (.t 51) (.seq (.ops c64_r7 false) (.block 0 (.loop c64_b0 [0, 1, 5, 55, 56, 57] [5]))) (.skip))) (.seq (.seq (.ops c64_r12 false) (.block 2 (.loop c64_b3 [0, 1, 5, 68, 69, 70] [5]))) (.seq (.ops c64_r28 false) (.ret))))))⟩

/-- shackle shackleref13.fact -/
@[simp] def c65_r0 : List AOper := [⟨some 2, none, .mov (.int .u64 0)⟩]
@[simp] def c65_r1 : List AOper := [⟨some 3, none, .mov (.int .u64 0)⟩]
@[simp] def c65_r2 : List AOper := [⟨some 4, none, .mov (.int .i64 0)⟩]
@[simp] def c65_r3 : List AOper := [⟨some 5, none, .mov (.t 4)⟩,
  ⟨some 6, none, .bin .lss (.t 5) (.int .i64 64)⟩]
@[simp] def c65_r5 : List AOper := [⟨some 9, none, .mov (.t 4)⟩,
  ⟨some 10, none, .mov (.t 0)⟩,
  ⟨some 11, none, .cvi .u64 (.t 10)⟩,
  ⟨some 12, none, .bin .shr (.t 9) (.t 11)⟩,
  ⟨some 13, none, .bin .and (.t 12) (.int .i64 1)⟩,
  ⟨some 14, none, .bin .eql (.t 13) (.int .i64 1)⟩]
@[simp] def c65_r6 : List AOper := [⟨some 15, none, .mov (.t 3)⟩,
  ⟨some 16, none, .mov (.t 4)⟩,
  ⟨some 17, none, .cvi .u64 (.t 16)⟩,
  ⟨some 18, none, .bin .shl (.int .u64 1) (.t 17)⟩,
  ⟨some 19, none, .bin .or (.t 15) (.t 18)⟩,
  ⟨some 3, none, .mov (.t 19)⟩]
@[simp] def c65_r4 : List AOper := [⟨some 7, none, .mov (.t 4)⟩,
  ⟨some 8, none, .bin .add (.t 7) (.int .i64 1)⟩,
  ⟨some 4, none, .mov (.t 8)⟩]
def c65_b0 : AC := .seq (.seq (.ops c65_r3 false) (.cond (.t 6) (.skip) (.exit 0))) (.seq (.block 1 (.seq (.ops c65_r5 false) (.cond (.t 14) (.ops c65_r6 false) (.skip)))) (.ops c65_r4 false))
@[simp] def c65_r7 : List AOper := [⟨some 20, none, .mov (.t 3)⟩,
  ⟨some 2, none, .mov (.t 20)⟩]
@[simp] def c65 : AFn := ⟨21, [.tmp 2], .seq (.ops c65_r0 false) (.seq (.ops c65_r1 false) (.seq (.seq (.ops c65_r2 false) (.block 0 (.loop c65_b0 [0, 3, 4] []))) (.seq (.ops c65_r7 false) (.ret))))⟩

/-- shackle shackleref13.isOp -/
@[simp] def c66_r0 : List AOper := [⟨some 2, none, .mov (.bool false)⟩]
@[simp] def c66_r1 : List AOper := [⟨some 3, none, .mov (.t 0)⟩,
  ⟨some 4, none, .bin .eql (.t 3) (.str [97, 110, 100])⟩,
  ⟨some 5, none, .mov (.t 4)⟩,
  ⟨some 6, (some (5, false)), .mov (.t 0)⟩,
  ⟨some 7, (some (5, false)), .bin .eql (.t 6) (.str [111, 114])⟩,
  ⟨some 8, none, .pick (.t 5) (.bool true) (.t 7)⟩,
  ⟨some 9, none, .mov (.t 8)⟩,
  ⟨some 10, (some (9, false)), .mov (.t 0)⟩,
  ⟨some 11, (some (9, false)), .bin .eql (.t 10) (.str [105, 102])⟩,
  ⟨some 12, none, .pick (.t 9) (.bool true) (.t 11)⟩,
  ⟨some 2, none, .mov (.t 12)⟩]
@[simp] def c66 : AFn := ⟨13, [.tmp 2], .seq (.ops c66_r0 false) (.seq (.ops c66_r1 false) (.ret))⟩

/-- shackle shackleref13.joined -/
@[simp] def c67_r0 : List AOper := [⟨some 6, none, .mov (.int .u64 0)⟩]
@[simp] def c67_r1 : List AOper := [⟨some 7, none, .mov (.t 0)⟩]
@[simp] def c67_r2 : List AOper := [⟨some 9, none, .bin .eql (.t 7) (.str [97, 110, 100])⟩,
  ⟨some 8, none, .mov (.t 9)⟩]
@[simp] def c67_r3 : List AOper := [⟨some 10, none, .mov (.t 1)⟩,
  ⟨some 11, none, .mov (.t 2)⟩,
  ⟨some 12, none, .bin .and (.t 10) (.t 11)⟩,
  ⟨some 6, none, .mov (.t 12)⟩]
@[simp] def c67_r4 : List AOper := [⟨some 14, none, .bin .eql (.t 7) (.str [111, 114])⟩,
  ⟨some 13, none, .mov (.t 14)⟩]
@[simp] def c67_r5 : List AOper := [⟨some 15, none, .mov (.t 1)⟩,
  ⟨some 16, none, .mov (.t 2)⟩,
  ⟨some 17, none, .bin .or (.t 15) (.t 16)⟩,
  ⟨some 6, none, .mov (.t 17)⟩]
@[simp] def c67_r6 : List AOper := [⟨some 18, none, .mov (.t 1)⟩,
  ⟨some 19, none, .mov (.t 2)⟩,
  ⟨some 20, none, .bin .xor (.int .u64 18446744073709551615) (.t 19)⟩,
  ⟨some 21, none, .bin .or (.t 18) (.t 20)⟩,
  ⟨some 6, none, .mov (.t 21)⟩]
@[simp] def c67 : AFn := ⟨22, [.tmp 6], .seq (.ops c67_r0 false) (.seq (.seq (.ops c67_r1 false) (.block 0 (.seq (.ops c67_r2 false) (.cond (.t 8) (.seq (.ops c67_r3 false) (.ret)) (.seq (.ops c67_r4 false) (.cond (.t 13) (.seq (.ops c67_r5 false) (.ret)) (.skip))))))) (.seq (.ops c67_r6 false) (.ret)))⟩

theorem c3_ok : FnOk Tryd.prog 3 c3 := ⟨_, Tryd.func3, by kernel_rfl⟩
theorem c4_ok : FnOk Tryd.prog 4 c4 := ⟨_, Tryd.func4, by kernel_rfl⟩
theorem c5_ok : FnOk Tryd.prog 5 c5 := ⟨_, Tryd.func5, by kernel_rfl⟩
theorem c6_ok : FnOk Tryd.prog 6 c6 := ⟨_, Tryd.func6, by kernel_rfl⟩
theorem c7_ok : FnOk Tryd.prog 7 c7 := ⟨_, Tryd.func7, by kernel_rfl⟩
theorem c8_ok : FnOk Tryd.prog 8 c8 := ⟨_, Tryd.func8, by kernel_rfl⟩
theorem c9_ok : FnOk Tryd.prog 9 c9 := ⟨_, Tryd.func9, by kernel_rfl⟩
theorem c10_ok : FnOk Tryd.prog 10 c10 := ⟨_, Tryd.func10, by kernel_rfl⟩
theorem c12_ok : FnOk Tryd.prog 12 c12 := ⟨_, Tryd.func12, by kernel_rfl⟩
theorem c13_ok : FnOk Tryd.prog 13 c13 := ⟨_, Tryd.func13, by kernel_rfl⟩
theorem c14_ok : FnOk Tryd.prog 14 c14 := ⟨_, Tryd.func14, by kernel_rfl⟩
theorem c15_ok : FnOk Tryd.prog 15 c15 := ⟨_, Tryd.func15, by kernel_rfl⟩
theorem c16_ok : FnOk Tryd.prog 16 c16 := ⟨_, Tryd.func16, by kernel_rfl⟩
theorem c17_ok : FnOk Tryd.prog 17 c17 := ⟨_, Tryd.func17, by kernel_rfl⟩
theorem c18_ok : FnOk Tryd.prog 18 c18 := ⟨_, Tryd.func18, by kernel_rfl⟩
theorem c19_ok : FnOk Tryd.prog 19 c19 := ⟨_, Tryd.func19, by kernel_rfl⟩
theorem c20_ok : FnOk Tryd.prog 20 c20 := ⟨_, Tryd.func20, by kernel_rfl⟩
theorem c21_ok : FnOk Tryd.prog 21 c21 := ⟨_, Tryd.func21, by kernel_rfl⟩
theorem c22_ok : FnOk Tryd.prog 22 c22 := ⟨_, Tryd.func22, by kernel_rfl⟩
theorem c23_ok : FnOk Tryd.prog 23 c23 := ⟨_, Tryd.func23, by kernel_rfl⟩
theorem c24_ok : FnOk Tryd.prog 24 c24 := ⟨_, Tryd.func24, by kernel_rfl⟩
theorem c25_ok : FnOk Tryd.prog 25 c25 := ⟨_, Tryd.func25, by kernel_rfl⟩
theorem c26_ok : FnOk Tryd.prog 26 c26 := ⟨_, Tryd.func26, by kernel_rfl⟩
theorem c27_ok : FnOk Tryd.prog 27 c27 := ⟨_, Tryd.func27, by kernel_rfl⟩
theorem c28_ok : FnOk Tryd.prog 28 c28 := ⟨_, Tryd.func28, by kernel_rfl⟩
theorem c29_ok : FnOk Tryd.prog 29 c29 := ⟨_, Tryd.func29, by kernel_rfl⟩
theorem c30_ok : FnOk Tryd.prog 30 c30 := ⟨_, Tryd.func30, by kernel_rfl⟩
theorem c31_ok : FnOk Tryd.prog 31 c31 := ⟨_, Tryd.func31, by kernel_rfl⟩
theorem c32_ok : FnOk Tryd.prog 32 c32 := ⟨_, Tryd.func32, by kernel_rfl⟩
theorem c33_ok : FnOk Tryd.prog 33 c33 := ⟨_, Tryd.func33, by kernel_rfl⟩
theorem c34_ok : FnOk Tryd.prog 34 c34 := ⟨_, Tryd.func34, by kernel_rfl⟩
theorem c35_ok : FnOk Tryd.prog 35 c35 := ⟨_, Tryd.func35, by kernel_rfl⟩
theorem c36_ok : FnOk Tryd.prog 36 c36 := ⟨_, Tryd.func36, by kernel_rfl⟩
theorem c37_ok : FnOk Tryd.prog 37 c37 := ⟨_, Tryd.func37, by kernel_rfl⟩
theorem c38_ok : FnOk Tryd.prog 38 c38 := ⟨_, Tryd.func38, by kernel_rfl⟩
theorem c39_ok : FnOk Tryd.prog 39 c39 := ⟨_, Tryd.func39, by kernel_rfl⟩
theorem c40_ok : FnOk Tryd.prog 40 c40 := ⟨_, Tryd.func40, by kernel_rfl⟩
theorem c41_ok : FnOk Tryd.prog 41 c41 := ⟨_, Tryd.func41, by kernel_rfl⟩
theorem c42_ok : FnOk Tryd.prog 42 c42 := ⟨_, Tryd.func42, by kernel_rfl⟩
theorem c43_ok : FnOk Tryd.prog 43 c43 := ⟨_, Tryd.func43, by kernel_rfl⟩
theorem c44_ok : FnOk Tryd.prog 44 c44 := ⟨_, Tryd.func44, by kernel_rfl⟩
theorem c45_ok : FnOk Tryd.prog 45 c45 := ⟨_, Tryd.func45, by kernel_rfl⟩
theorem c46_ok : FnOk Tryd.prog 46 c46 := ⟨_, Tryd.func46, by kernel_rfl⟩
theorem c47_ok : FnOk Tryd.prog 47 c47 := ⟨_, Tryd.func47, by kernel_rfl⟩
theorem c48_ok : FnOk Tryd.prog 48 c48 := ⟨_, Tryd.func48, by kernel_rfl⟩
theorem c49_ok : FnOk Tryd.prog 49 c49 := ⟨_, Tryd.func49, by kernel_rfl⟩
theorem c50_ok : FnOk Tryd.prog 50 c50 := ⟨_, Tryd.func50, by kernel_rfl⟩
theorem c51_ok : FnOk Tryd.prog 51 c51 := ⟨_, Tryd.func51, by kernel_rfl⟩
theorem c52_ok : FnOk Tryd.prog 52 c52 := ⟨_, Tryd.func52, by kernel_rfl⟩
theorem c53_ok : FnOk Tryd.prog 53 c53 := ⟨_, Tryd.func53, by kernel_rfl⟩
theorem c54_ok : FnOk Tryd.prog 54 c54 := ⟨_, Tryd.func54, by kernel_rfl⟩
theorem c55_ok : FnOk Tryd.prog 55 c55 := ⟨_, Tryd.func55, by kernel_rfl⟩
theorem c56_ok : FnOk Tryd.prog 56 c56 := ⟨_, Tryd.func56, by kernel_rfl⟩
theorem c57_ok : FnOk Tryd.prog 57 c57 := ⟨_, Tryd.func57, by kernel_rfl⟩
theorem c58_ok : FnOk Tryd.prog 58 c58 := ⟨_, Tryd.func58, by kernel_rfl⟩
theorem c59_ok : FnOk Tryd.prog 59 c59 := ⟨_, Tryd.func59, by kernel_rfl⟩
theorem c60_ok : FnOk Tryd.prog 60 c60 := ⟨_, Tryd.func60, by kernel_rfl⟩
theorem c61_ok : FnOk Tryd.prog 61 c61 := ⟨_, Tryd.func61, by kernel_rfl⟩
theorem c62_ok : FnOk Tryd.prog 62 c62 := ⟨_, Tryd.func62, by kernel_rfl⟩
theorem c64_ok : FnOk Tryd.prog 64 c64 := ⟨_, Tryd.func64, by kernel_rfl⟩
theorem c65_ok : FnOk Tryd.prog 65 c65 := ⟨_, Tryd.func65, by kernel_rfl⟩
theorem c66_ok : FnOk Tryd.prog 66 c66 := ⟨_, Tryd.func66, by kernel_rfl⟩
theorem c67_ok : FnOk Tryd.prog 67 c67 := ⟨_, Tryd.func67, by kernel_rfl⟩

end Go.Pp
