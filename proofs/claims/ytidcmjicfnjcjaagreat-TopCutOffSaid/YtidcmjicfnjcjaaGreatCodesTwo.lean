/- The codes of the functions, as a program of ours has printed them, and that they are the codes of the functions of the program. -/
import Derived.Test.YtidcmjicfnjcjaaGreatEvFour
import Derived.Test.YtidcmjicfnjcjaaGreatProg
import Derived.KernelRfl
import Derived.Test.YtidcmjicfnjcjaaGreatCodesOne
set_option linter.all false

namespace Go.Pf
open Go Go.Ev Go.Proofs Go.RowKit
def c81_r0:CL:=[cq 1 (.boxi (.t 0)),
 cq 2 (.mov (ci 0))]
def c81_r1:CL:=[cq 3 (.mov (.fn 134))]
def c81_r2:CL:=[cq 4 (.mov (.fn 136))]
def c81_r4:CL:=[cq 6 (.fld 0 (.t 1)),
 cq 7 (.ldi 1 false (.t 6)),
 cq 8 (.len (.t 7)),
 cq 9 (.bin .gtr (.t 8) (ci 3)),
 cm 10 9,
 cv 11 10 (.fld 0 (.t 1)),
 cv 12 10 (.ldi 1 false (.t 11)),
 cx 13 10 3,
 cv 14 10 (.call 138 [.t 12,.t 13] []),
 cq 15 (.pick (.t 10) (.bool true) (.t 14)),
 cm 5 15]
def c81_r5:CL:=[cq 17 (.fld 1 (.t 1)),
 cq 18 (.ldi 1 false (.t 17)),
 cq 19 (.call 135 [.t 18,ci 0,ci 9999] []),
 cq 20 (.not (.t 19)),
 cm 21 20,
 cv 22 21 (.fld 2 (.t 1)),
 cv 23 21 (.fld 0 (.t 22)),
 cv 24 21 (.ldi 1 false (.t 23)),
 cv 25 21 (.fld 2 (.t 1)),
 cv 26 21 (.fld 1 (.t 25)),
 cv 27 21 (.ldi 1 false (.t 26)),
 cv 28 21 (.call 135 [.t 24,ci 0,.t 27] []),
 cv 29 21 (.not (.t 28)),
 cq 30 (.pick (.t 21) (.bool true) (.t 29)),
 cm 31 30,
 cv 32 31 (.fld 2 (.t 1)),
 cv 33 31 (.fld 1 (.t 32)),
 cv 34 31 (.ldi 1 false (.t 33)),
 cv 35 31 (.bin .gtr (.t 34) (ci 20)),
 cq 36 (.pick (.t 31) (.bool true) (.t 35)),
 cm 16 36]
def c81_r6:CL:=[cq 38 (.fld 4 (.t 1)),
 cq 39 (.ldi 1 false (.t 38)),
 cq 40 (.len (.t 39)),
 cq 41 (.bin .gtr (.t 40) (ci 6)),
 cm 42 41,
 cv 43 42 (.fld 4 (.t 1)),
 cv 44 42 (.ldi 1 false (.t 43)),
 cx 45 42 4,
 cv 46 42 (.call 139 [.t 44,.t 45] []),
 cq 47 (.pick (.t 42) (.bool true) (.t 46)),
 cm 37 47]
def c81_r7:CL:=[cq 49 (.fld 5 (.t 1)),
 cq 50 (.ldi 1 false (.t 49)),
 cq 51 (.call 135 [.t 50,ci 0,ci 6] []),
 cq 52 (.not (.t 51)),
 cm 48 52]
def c81_r3:CL:=[cq 2 (.mov (ci 0))]
def c81_r8:CL:=[cq 2 (.mov (ci 30))]
def c81:AFn:=⟨53,[.tmp 2],cs c81_r0 (cs c81_r1 (cs c81_r2 (.seq (.block 0 (cs c81_r4 (.cond (.t 5) (.skip) (cs c81_r5 (.cond (.t 16) (.skip) (cs c81_r6 (.cond (.t 37) (.skip) (cs c81_r7 (.cond (.t 48) (.skip) (cs c81_r3 (.ret))))))))))) (cs c81_r8 (.ret)))))⟩
def c82_r0:CL:=[cq 1 (.boxi (.t 0)),
 cq 2 (.mov (.nilf))]
def c82_r1:CL:=[cq 3 (.yy (.mkf 140 [] [.t 1])),
 cm 2 3]
def c82:AFn:=⟨4,[.tmp 2],cs c82_r0 (cs c82_r1 (.ret))⟩
def c83_r0:CL:=[cq 1 (.boxi (.t 0)),
 cq 2 (.mov (ci 0)),
 cq 3 (.mov (ci 0))]
def c83_r1:CL:=[cq 7 (.ldi 3 true (.t 1)),
 cq 8 (.call 80 [.t 7] []),
 cm 4 8]
def c83_r2:CL:=[cm 9 4,
 cq 10 (.bin .neq (.t 9) (ci 0))]
def c83_r3:CL:=[cm 11 4,
 cq 2 (.mov (ci 0)),
 cm 3 11]
def c83_r4:CL:=[cq 13 (.ldi 3 true (.t 1)),
 cq 14 (.call 141 [.t 13] []),
 cm 12 14,
 cq 15 (.ext (.t 12) 0),
 cq 16 (.ext (.t 12) 1),
 cm 5 15,
 cm 6 16]
def c83_r5:CL:=[cm 17 5,
 cm 2 17,
 cq 3 (.mov (ci 0))]
def c83:AFn:=⟨18,[.tmp 2,.tmp 3],cs c83_r0 (.seq (cs c83_r1 (cs c83_r2 (.cond (.t 10) (cs c83_r3 (.ret)) (.skip)))) (cs c83_r4 (cs c83_r5 (.ret))))⟩
def c84_r0:CL:=[cq 2 (.boxi (.t 0)),
 cq 4 (.alo 4 [.nil 5,.nil 5,ci 0])]
def c84_r1:CL:=[cq 5 (.fld 0 (.t 2)),
 cq 6 (.ldi 1 false (.t 5)),
 cm 7 1,
 cq 8 (.sli 5 (.t 6) none (some (.t 7))),
 cq 9 (.bld [.nil 5,.nil 5,ci 0] [(0,1,.t 8)]),
 cn (.sto 4 3 (.t 4) (.t 9))]
def c84:AFn:=⟨10,[.cell 4 3 true],cs c84_r0 (cs c84_r1 (.ret))⟩
def c85_r0:CL:=[cq 1 (.boxi (.t 0)),
 cq 2 (.mov (ci 0))]
def c85_r1:CL:=[cq 6 (.fld 0 (.t 1)),
 cq 7 (.ldi 1 false (.t 6)),
 cq 8 (.len (.t 7)),
 cq 9 (.bin .gtr (.t 8) (ci 12)),
 cm 10 9,
 cv 11 10 (.fld 1 (.t 1)),
 cv 12 10 (.ldi 1 false (.t 11)),
 cv 13 10 (.len (.t 12)),
 cv 14 10 (.bin .gtr (.t 13) (ci 8)),
 cq 15 (.pick (.t 10) (.bool true) (.t 14)),
 cm 16 15,
 cv 17 16 (.fld 2 (.t 1)),
 cv 18 16 (.ldi 1 false (.t 17)),
 cv 19 16 (.call 58 [.t 18,ci 0,ci 8] []),
 cv 20 16 (.not (.t 19)),
 cq 21 (.pick (.t 16) (.bool true) (.t 20))]
def c85_r2:CL:=[cq 2 (.mov (ci 20))]
def c85_r3:CL:=[cq 23 (.fld 0 (.t 1)),
 cq 24 (.ldi 1 false (.t 23)),
 cq 25 (.call 142 [.t 24] []),
 cm 22 25,
 cq 26 (.ext (.t 22) 0),
 cq 27 (.ext (.t 22) 1),
 cm 3 26,
 cm 4 27]
def c85_r4:CL:=[cm 28 4,
 cq 29 (.not (.t 28))]
def c85_r5:CL:=[cq 2 (.mov (ci 20))]
def c85_r6:CL:=[cq 5 (.mov (ci 0))]
def c85_r7:CL:=[cm 30 5,
 cq 31 (.fld 1 (.t 1)),
 cq 32 (.ldi 1 false (.t 31)),
 cq 33 (.len (.t 32)),
 cq 34 (.bin .lss (.t 30) (.t 33))]
def c85_r9:CL:=[cq 37 (.fld 1 (.t 1)),
 cq 38 (.ldi 1 false (.t 37)),
 cm 39 5,
 cq 40 (.ixi 5 (.t 38) (.t 39)),
 cq 41 (.ldi 5 true (.t 40)),
 cm 42 3,
 cq 43 (.call 143 [.t 41,.t 42] []),
 cq 44 (.not (.t 43))]
def c85_r10:CL:=[cq 2 (.mov (ci 20))]
def c85_r8:CL:=[cm 35 5,
 cq 36 (.bin .add (.t 35) (ci 1)),
 cm 5 36]
def c85_b0:AC:=.seq (cs c85_r7 (.cond (.t 34) (.skip) (.exit 0))) (.seq (.block 1 (cs c85_r9 (.cond (.t 44) (cs c85_r10 (.ret)) (.skip)))) (co c85_r8))
def c85_r11:CL:=[cq 2 (.mov (ci 0))]
def c85:AFn:=⟨45,[.tmp 2],cs c85_r0 (.seq (cs c85_r1 (.cond (.t 21) (cs c85_r2 (.ret)) (.skip))) (cs c85_r3 (.seq (cs c85_r4 (.cond (.t 29) (cs c85_r5 (.ret)) (.skip))) (.seq (cs c85_r6 (.block 0 (.loop c85_b0 [1,3,5] []))) (cs c85_r11 (.ret))))))⟩
def c86_r0:CL:=[cq 1 (.boxi (.t 0)),
 cq 2 (.mov (ci 0))]
def c86_r1:CL:=[cq 6 (.fld 0 (.t 1)),
 cq 7 (.ldi 1 false (.t 6)),
 cq 8 (.len (.t 7)),
 cq 9 (.bin .gtr (.t 8) (ci 3)),
 cm 10 9,
 cv 11 10 (.fld 1 (.t 1)),
 cv 12 10 (.ldi 1 false (.t 11)),
 cv 13 10 (.call 144 [.t 12,ci 0,ci 9999] []),
 cv 14 10 (.not (.t 13)),
 cq 15 (.pick (.t 10) (.bool true) (.t 14)),
 cm 16 15,
 cv 17 16 (.fld 2 (.t 1)),
 cv 18 16 (.fld 0 (.t 17)),
 cv 19 16 (.ldi 1 false (.t 18)),
 cv 20 16 (.fld 2 (.t 1)),
 cv 21 16 (.fld 1 (.t 20)),
 cv 22 16 (.ldi 1 false (.t 21)),
 cv 23 16 (.call 144 [.t 19,ci 0,.t 22] []),
 cv 24 16 (.not (.t 23)),
 cq 25 (.pick (.t 16) (.bool true) (.t 24)),
 cm 26 25,
 cv 27 26 (.fld 2 (.t 1)),
 cv 28 26 (.fld 1 (.t 27)),
 cv 29 26 (.ldi 1 false (.t 28)),
 cv 30 26 (.bin .gtr (.t 29) (ci 20)),
 cq 31 (.pick (.t 26) (.bool true) (.t 30)),
 cm 32 31,
 cv 33 32 (.fld 4 (.t 1)),
 cv 34 32 (.ldi 1 false (.t 33)),
 cv 35 32 (.len (.t 34)),
 cv 36 32 (.bin .gtr (.t 35) (ci 6)),
 cq 37 (.pick (.t 32) (.bool true) (.t 36)),
 cm 38 37,
 cv 39 38 (.fld 5 (.t 1)),
 cv 40 38 (.ldi 1 false (.t 39)),
 cv 41 38 (.call 144 [.t 40,ci 0,ci 6] []),
 cv 42 38 (.not (.t 41)),
 cq 43 (.pick (.t 38) (.bool true) (.t 42))]
def c86_r2:CL:=[cq 2 (.mov (ci 30))]
def c86_r3:CL:=[cq 3 (.mov (ci 0))]
def c86_r4:CL:=[cm 44 3,
 cq 45 (.fld 0 (.t 1)),
 cq 46 (.ldi 1 false (.t 45)),
 cq 47 (.len (.t 46)),
 cq 48 (.bin .lss (.t 44) (.t 47))]
def c86_r6:CL:=[cq 51 (.fld 0 (.t 1)),
 cq 52 (.ldi 1 false (.t 51)),
 cm 53 3,
 cq 54 (.ixi 3 (.t 52) (.t 53)),
 cq 55 (.fld 0 (.t 54)),
 cq 56 (.ldi 1 false (.t 55)),
 cq 57 (.call 144 [.t 56,ci 1,ci 1000] []),
 cq 58 (.not (.t 57)),
 cm 59 58,
 cv 60 59 (.fld 0 (.t 1)),
 cv 61 59 (.ldi 1 false (.t 60)),
 cx 62 59 3,
 cv 63 59 (.ixi 3 (.t 61) (.t 62)),
 cv 64 59 (.fld 1 (.t 63)),
 cv 65 59 (.fld 0 (.t 64)),
 cv 66 59 (.ldi 1 false (.t 65)),
 cv 67 59 (.fld 0 (.t 1)),
 cv 68 59 (.ldi 1 false (.t 67)),
 cx 69 59 3,
 cv 70 59 (.ixi 3 (.t 68) (.t 69)),
 cv 71 59 (.fld 1 (.t 70)),
 cv 72 59 (.fld 1 (.t 71)),
 cv 73 59 (.ldi 1 false (.t 72)),
 cv 74 59 (.call 144 [.t 66,ci 1,.t 73] []),
 cv 75 59 (.not (.t 74)),
 cq 76 (.pick (.t 59) (.bool true) (.t 75)),
 cm 77 76,
 cv 78 77 (.fld 0 (.t 1)),
 cv 79 77 (.ldi 1 false (.t 78)),
 cx 80 77 3,
 cv 81 77 (.ixi 3 (.t 79) (.t 80)),
 cv 82 77 (.fld 1 (.t 81)),
 cv 83 77 (.fld 1 (.t 82)),
 cv 84 77 (.ldi 1 false (.t 83)),
 cv 85 77 (.bin .gtr (.t 84) (ci 1000)),
 cq 86 (.pick (.t 77) (.bool true) (.t 85))]
def c86_r7:CL:=[cq 2 (.mov (ci 30))]
def c86_r5:CL:=[cm 49 3,
 cq 50 (.bin .add (.t 49) (ci 1)),
 cm 3 50]
def c86_b0:AC:=.seq (cs c86_r4 (.cond (.t 48) (.skip) (.exit 0))) (.seq (.block 1 (.seq (.ops c86_r6 true) (.cond (.t 86) (cs c86_r7 (.ret)) (.skip)))) (co c86_r5))
def c86_r8:CL:=[cq 4 (.mov (ci 0))]
def c86_r9:CL:=[cm 87 4,
 cq 88 (.fld 4 (.t 1)),
 cq 89 (.ldi 1 false (.t 88)),
 cq 90 (.len (.t 89)),
 cq 91 (.bin .lss (.t 87) (.t 90))]
def c86_r11:CL:=[cq 94 (.fld 4 (.t 1)),
 cq 95 (.ldi 1 false (.t 94)),
 cm 96 4,
 cq 97 (.ixi 4 (.t 95) (.t 96)),
 cq 98 (.ldi 4 true (.t 97)),
 cq 5 (.alo 5 [ci 0,ci 0,ci 0,ci 0]),
 cn (.sto 5 4 (.t 5) (.t 98))]
def c86_r12:CL:=[cq 99 (.fld 0 (.t 5)),
 cq 100 (.ldo 5 1 false (.t 99)),
 cq 101 (.fld 1 (.t 5)),
 cq 102 (.ldo 5 1 false (.t 101)),
 cq 103 (.fld 2 (.t 5)),
 cq 104 (.ldo 5 1 false (.t 103)),
 cq 105 (.call 91 [.t 100,.t 102,.t 104] []),
 cq 106 (.not (.t 105)),
 cm 107 106,
 cv 108 107 (.fld 3 (.t 5)),
 cv 109 107 (.ldo 5 1 false (.t 108)),
 cv 110 107 (.call 144 [.t 109,ci 0,ci 999999999] []),
 cv 111 107 (.not (.t 110)),
 cq 112 (.pick (.t 107) (.bool true) (.t 111))]
def c86_r13:CL:=[cq 2 (.mov (ci 30))]
def c86_r10:CL:=[cm 92 4,
 cq 93 (.bin .add (.t 92) (ci 1)),
 cm 4 93]
def c86_b1:AC:=.seq (cs c86_r9 (.cond (.t 91) (.skip) (.exit 2))) (.seq (.block 3 (cs c86_r11 (cs c86_r12 (.cond (.t 112) (cs c86_r13 (.ret)) (.skip))))) (co c86_r10))
def c86_r14:CL:=[cq 2 (.mov (ci 0))]
def c86:AFn:=⟨113,[.tmp 2],cs c86_r0 (.seq (cs c86_r1 (.cond (.t 43) (cs c86_r2 (.ret)) (.skip))) (.seq (cs c86_r3 (.block 0 (.loop c86_b0 [1,3] []))) (.seq (cs c86_r8 (.block 2 (.loop c86_b1 [1,4] []))) (cs c86_r14 (.ret)))))⟩
def c87_r0:CL:=[cq 6 (.mov (.bool false))]
def c87_r1:CL:=[cm 7 0,
 cm 8 1,
 cm 9 2,
 cq 10 (.call 58 [.t 7,.t 8,.t 9] []),
 cm 6 10]
def c87:AFn:=⟨11,[.tmp 6],cs c87_r0 (cs c87_r1 (.ret))⟩
def c88_r0:CL:=[cq 1 (.boxi (.t 0)),
 cq 2 (.mov (.nil 1))]
def c88_r1:CL:=[cq 3 (.nilo 3 3 1)]
def c88_r2:CL:=[cq 4 (.mov (ci 0))]
def c88_r3:CL:=[cm 5 4,
 cq 6 (.fld 0 (.t 1)),
 cq 7 (.ldi 1 false (.t 6)),
 cq 8 (.len (.t 7)),
 cq 9 (.bin .lss (.t 5) (.t 8))]
def c88_r5:CL:=[cq 12 (.fld 0 (.t 1)),
 cq 13 (.ldi 1 false (.t 12)),
 cm 14 4,
 cq 15 (.ixi 5 (.t 13) (.t 14)),
 cq 16 (.fld 0 (.t 15)),
 cq 17 (.ldi 1 false (.t 16)),
 cq 18 (.bin .eql (.t 17) (ci 4))]
def c88_r6:CL:=[cm 19 3,
 cm 20 4,
 cq 21 (.bsl 1 [.t 20]),
 cq 22 (.app 3 3 1 8 (.t 19) (.t 21)),
 cm 3 22]
def c88_r4:CL:=[cm 10 4,
 cq 11 (.bin .add (.t 10) (ci 1)),
 cm 4 11]
def c88_b0:AC:=.seq (cs c88_r3 (.cond (.t 9) (.skip) (.exit 0))) (.seq (.block 1 (cs c88_r5 (.cond (.t 18) (co c88_r6) (.skip)))) (co c88_r4))
def c88_r7:CL:=[cm 23 3,
 cm 2 23]
def c88:AFn:=⟨24,[.tmp 2],cs c88_r0 (cs c88_r1 (.seq (cs c88_r2 (.block 0 (.loop c88_b0 [1,3,4] [3]))) (cs c88_r7 (.ret))))⟩
def c89_r0:CL:=[cq 2 (.boxi (.t 0)),
 cq 4 (.mov (.nil 1))]
def c89_r1:CL:=[cq 5 (.mov (.nil 1))]
def c89_r2:CL:=[cq 14 (.bso 14 64 1 [.nil 1]),
 cm 6 14]
def c89_r3:CL:=[cq 7 (.mov (ci 0))]
def c89_r4:CL:=[cq 8 (.mov (ci 0))]
def c89_r5:CL:=[cm 15 8,
 cq 16 (.fld 0 (.t 2)),
 cq 17 (.ldi 1 false (.t 16)),
 cq 18 (.len (.t 17)),
 cq 19 (.bin .lss (.t 15) (.t 18))]
def c89_r7:CL:=[cq 22 (.fld 0 (.t 2)),
 cq 23 (.ldi 1 false (.t 22)),
 cm 24 8,
 cq 25 (.ixi 5 (.t 23) (.t 24)),
 cq 26 (.ldi 5 true (.t 25)),
 cq 9 (.alo 9 [ci 0,ci 0,ci 0,ci 0,ci 0]),
 cn (.sto 9 5 (.t 9) (.t 26))]
def c89_r8:CL:=[cq 10 (.nilo 10 3 1)]
def c89_r9:CL:=[cq 27 (.fld 0 (.t 9)),
 cq 28 (.ldo 9 1 false (.t 27))]
def c89_r11:CL:=[cq 31 (.bin .eql (.t 28) (ci 1)),
 cm 30 31]
def c89_r12:CL:=[cq 32 (.fld 1 (.t 9)),
 cq 33 (.ldo 9 1 false (.t 32)),
 cm 34 1,
 cm 35 8,
 cq 36 (.ixi 1 (.t 34) (.t 35)),
 cq 37 (.ldi 1 false (.t 36)),
 cm 38 5,
 cq 39 (.len (.t 38)),
 cq 40 (.bin .add (.t 39) (ci 1)),
 cq 41 (.call 145 [.t 33,.t 37,.t 40] []),
 cm 11 41]
def c89_r13:CL:=[cm 42 10,
 cm 43 5,
 cm 44 11,
 cq 45 (.sli 1 (.t 43) none (some (.t 44))),
 cq 46 (.app 10 3 1 8 (.t 42) (.t 45)),
 cm 47 7,
 cq 48 (.bsl 1 [.t 47]),
 cq 49 (.app 10 3 1 8 (.t 46) (.t 48)),
 cm 50 5,
 cm 51 11,
 cq 52 (.sli 1 (.t 50) (some (.t 51)) none),
 cq 53 (.app 10 3 1 8 (.t 49) (.t 52)),
 cm 10 53]
def c89_r14:CL:=[cm 54 7,
 cq 55 (.bin .add (.t 54) (ci 1)),
 cm 7 55]
def c89_r15:CL:=[cq 57 (.bin .eql (.t 28) (ci 2)),
 cm 56 57]
def c89_r16:CL:=[cq 58 (.fld 1 (.t 9)),
 cq 59 (.ldo 9 1 false (.t 58)),
 cm 60 1,
 cm 61 8,
 cq 62 (.ixi 1 (.t 60) (.t 61)),
 cq 63 (.ldi 1 false (.t 62)),
 cm 64 5,
 cq 65 (.len (.t 64)),
 cq 66 (.call 145 [.t 59,.t 63,.t 65] []),
 cm 12 66]
def c89_r17:CL:=[cm 67 10,
 cm 68 5,
 cm 69 12,
 cq 70 (.sli 1 (.t 68) none (some (.t 69))),
 cq 71 (.app 10 3 1 8 (.t 67) (.t 70)),
 cm 72 5,
 cm 73 12,
 cq 74 (.bin .add (.t 73) (ci 1)),
 cq 75 (.sli 1 (.t 72) (some (.t 74)) none),
 cq 76 (.app 10 3 1 8 (.t 71) (.t 75)),
 cm 10 76]
def c89_r18:CL:=[cq 78 (.bin .eql (.t 28) (ci 3)),
 cm 77 78]
def c89_r19:CL:=[cm 79 5,
 cq 80 (.len (.t 79)),
 cq 81 (.bin .sub (.t 80) (ci 1)),
 cm 13 81]
def c89_r20:CL:=[cm 82 13,
 cq 83 (.bin .geq (.t 82) (ci 0))]
def c89_r22:CL:=[cm 86 10,
 cm 87 5,
 cm 88 13,
 cq 89 (.ixi 1 (.t 87) (.t 88)),
 cq 90 (.ldi 1 false (.t 89)),
 cq 91 (.bsl 1 [.t 90]),
 cq 92 (.app 10 3 1 8 (.t 86) (.t 91)),
 cm 10 92]
def c89_r21:CL:=[cm 84 13,
 cq 85 (.bin .sub (.t 84) (ci 1)),
 cm 13 85]
def c89_b0:AC:=.seq (cs c89_r20 (.cond (.t 83) (.skip) (.exit 3))) (.seq (.block 4 (co c89_r22)) (co c89_r21))
def c89_r10:CL:=[cm 29 5,
 cm 10 29]
def c89_r23:CL:=[cm 93 10,
 cm 5 93]
def c89_r24:CL:=[cm 94 6,
 cm 95 5,
 cq 96 (.bsl 1 [.t 95]),
 cq 97 (.app 14 64 1 24 (.t 94) (.t 96)),
 cm 6 97]
def c89_r6:CL:=[cm 20 8,
 cq 21 (.bin .add (.t 20) (ci 1)),
 cm 8 21]
def c89_b1:AC:=.seq (cs c89_r5 (.cond (.t 19) (.skip) (.exit 0))) (.seq (.block 1 (cs c89_r7 (cs c89_r8 (.seq (cs c89_r9 (.block 2 (cs c89_r11 (.cond (.t 30) (.seq (.ops c89_r12 true) (.seq (.ops c89_r13 true) (co c89_r14))) (cs c89_r15 (.cond (.t 56) (.seq (.ops c89_r16 true) (.ops c89_r17 true)) (cs c89_r18 (.cond (.t 77) (cs c89_r19 (.block 3 (.loop c89_b0 [1,2,5,6,7,8,10,13] [10,14]))) (co c89_r10))))))))) (.seq (.fz [1,2,6,7,8,10] [14] (co c89_r23)) (co c89_r24)))))) (co c89_r6))
def c89_r25:CL:=[cm 98 6,
 cm 4 98]
def c89:AFn:=⟨99,[.tmp 4],cs c89_r0 (cs c89_r1 (cs c89_r2 (cs c89_r3 (.seq (cs c89_r4 (.block 0 (.loop c89_b1 [1,2,5,6,7,8] [14]))) (cs c89_r25 (.ret))))))⟩
def c90_r0:CL:=[cq 1 (.boxi (.t 0)),
 cq 2 (.mov (.nil 1))]
def c90_r1:CL:=[cq 3 (.nilo 3 3 1)]
def c90_r2:CL:=[cq 4 (.mov (ci 0))]
def c90_r3:CL:=[cm 5 4,
 cq 6 (.fld 0 (.t 1)),
 cq 7 (.ldi 1 false (.t 6)),
 cq 8 (.len (.t 7)),
 cq 9 (.bin .lss (.t 5) (.t 8))]
def c90_r5:CL:=[cm 12 3,
 cq 13 (.fld 0 (.t 1)),
 cq 14 (.ldi 1 false (.t 13)),
 cm 15 4,
 cq 16 (.ixi 5 (.t 14) (.t 15)),
 cq 17 (.fld 2 (.t 16)),
 cq 18 (.ldi 1 false (.t 17)),
 cq 19 (.bin .rem (.t 18) (ci 2)),
 cq 20 (.bsl 1 [.t 19]),
 cq 21 (.app 3 3 1 8 (.t 12) (.t 20)),
 cm 3 21]
def c90_r4:CL:=[cm 10 4,
 cq 11 (.bin .add (.t 10) (ci 1)),
 cm 4 11]
def c90_b0:AC:=.seq (cs c90_r3 (.cond (.t 9) (.skip) (.exit 0))) (.seq (.block 1 (co c90_r5)) (co c90_r4))
def c90_r6:CL:=[cm 22 3,
 cm 2 22]
def c90:AFn:=⟨23,[.tmp 2],cs c90_r0 (cs c90_r1 (.seq (cs c90_r2 (.block 0 (.loop c90_b0 [1,3,4] [3]))) (cs c90_r6 (.ret))))⟩
def c91_r0:CL:=[cq 6 (.mov (.bool false))]
def c91_r1:CL:=[cm 7 0,
 cq 8 (.call 144 [.t 7,ci 0,ci 9999] []),
 cm 9 8,
 cw 10 9 1,
 cu 11 9 (.call 144 [.t 10,ci 0,ci 99] []),
 cq 12 (.pick (.t 9) (.t 11) (.bool false)),
 cm 13 12,
 cw 14 13 2,
 cu 15 13 (.call 144 [.t 14,ci 0,ci 999999999] []),
 cq 16 (.pick (.t 13) (.t 15) (.bool false)),
 cm 6 16]
def c91:AFn:=⟨17,[.tmp 6],cs c91_r0 (cs c91_r1 (.ret))⟩
def c93_r0:CL:=[cq 2 (.boxi (.t 0)),
 cq 4 (.mov (.bool false))]
def c93_r1:CL:=[cm 5 1,
 cq 6 (.fld 9 (.t 2)),
 cq 7 (.ldi 1 false (.t 6)),
 cq 8 (.len (.t 7)),
 cq 9 (.bin .sub (.t 8) (ci 1)),
 cq 10 (.call 67 [.t 5,ci 0,.t 9] []),
 cm 4 10]
def c93:AFn:=⟨11,[.tmp 4],cs c93_r0 (cs c93_r1 (.ret))⟩
def c96_r0:CL:=[cq 1 (.boxi (.t 0)),
 cq 2 (.mov (.nilf))]
def c96_r1:CL:=[cq 3 (.yy (.mkf 152 [] [.t 1])),
 cm 2 3]
def c96:AFn:=⟨4,[.tmp 2],cs c96_r0 (cs c96_r1 (.ret))⟩
def c102_r0:CL:=[cq 3 (.boxi (.t 0)),
 cq 6 (.mov (.bool false))]
def c102_r1:CL:=[cq 7 (.fld 0 (.t 3)),
 cq 8 (.fld 1 (.t 7)),
 cq 9 (.ldi 1 false (.t 8)),
 cm 10 1,
 cq 11 (.ixi 1 (.t 9) (.t 10)),
 cq 12 (.ldi 1 false (.t 11)),
 cq 13 (.bin .geq (.t 12) (ci 0)),
 cm 14 13,
 cu 15 14 (.fld 3 (.t 3)),
 cu 16 14 (.ldi 1 false (.t 15)),
 cw 17 14 1,
 cu 18 14 (.ixi 2 (.t 16) (.t 17)),
 cu 19 14 (.fld 1 (.t 18)),
 cu 20 14 (.ldi 1 false (.t 19)),
 cw 21 14 2,
 cu 22 14 (.bin .leq (.t 20) (.t 21)),
 cq 23 (.pick (.t 14) (.t 22) (.bool false)),
 cm 6 23]
def c102:AFn:=⟨24,[.tmp 6],cs c102_r0 (cs c102_r1 (.ret))⟩
def c115_r0:CL:=[cq 3 (.boxi (.t 0)),
 cq 4 (.boxi (.t 1)),
 cq 5 (.boxi (.t 2)),
 cq 6 (.alo 6 [ci 0,ci 0]),
 cq 7 (.mov (ci 0))]
def c115_r1:CL:=[cq 16 (.ldi 6 true (.t 3)),
 cq 17 (.ldi 1 false (.t 4)),
 cq 18 (.ldi 1 false (.t 5)),
 cq 19 (.call 137 [.t 17,.t 18,ci 0] []),
 cq 20 (.call 153 [.t 16,.t 19] []),
 cm 15 20,
 cq 21 (.ext (.t 15) 0),
 cq 22 (.ext (.t 15) 1),
 cq 8 (.alo 8 [.nilp]),
 cn (.sto 8 1 (.t 8) (.t 21)),
 cm 9 22]
def c115_r2:CL:=[cm 23 9,
 cq 24 (.bin .neq (.t 23) (ci 0))]
def c115_r3:CL:=[cq 25 (.bld [ci 0,ci 0] []),
 cm 26 9,
 cn (.sto 6 2 (.t 6) (.t 25)),
 cm 7 26]
def c115_r4:CL:=[cq 27 (.bld [ci 0,ci 0] []),
 cq 10 (.alo 10 [ci 0,ci 0]),
 cq 11 (.alo 11 [.bool false]),
 cn (.sto 10 2 (.t 10) (.t 27)),
 cn (.sto 11 1 (.t 11) (.bool true))]
def c115_r5:CL:=[cq 28 (.ldo 8 1 false (.t 8)),
 cq 29 (.yy (.mkf 154 [.t 28] []))]
def c115_r6:CL:=[cq 12 (.alo 12 [ci 0,ci 0,ci 0,ci 0,ci 0]),
 cn (.sto 12 5 (.t 12) (.t 30))]
def c115_r7:CL:=[cq 31 (.ldo 8 1 false (.t 8)),
 cq 32 (.ldo 12 5 true (.t 12)),
 cq 33 (.ldi 1 false (.t 4)),
 cq 34 (.ldi 1 false (.t 5)),
 cq 35 (.call 155 [.t 31,.t 32,.t 33,.t 34] []),
 cq 36 (.ldo 8 1 false (.t 8)),
 cq 37 (.nilc (.t 36)),
 cq 38 (.fld 6 (.t 37)),
 cq 39 (.ldi 1 false (.t 38)),
 cq 40 (.bin .mul (.t 35) (.t 39)),
 cm 13 40]
def c115_r8:CL:=[cm 41 13,
 cq 42 (.fld 4 (.t 12)),
 cq 43 (.ldo 12 1 false (.t 42)),
 cq 44 (.bin .quo (.t 41) (.t 43)),
 cm 45 13,
 cq 46 (.fld 4 (.t 12)),
 cq 47 (.ldo 12 1 false (.t 46)),
 cq 48 (.bin .add (.t 45) (.t 47)),
 cq 49 (.bin .sub (.t 48) (ci 1)),
 cq 50 (.fld 4 (.t 12)),
 cq 51 (.ldo 12 1 false (.t 50)),
 cq 52 (.bin .quo (.t 49) (.t 51)),
 cq 53 (.bld [ci 0,ci 0] [(0,1,.t 44),(1,1,.t 52)]),
 cq 14 (.alo 14 [ci 0,ci 0]),
 cn (.sto 14 2 (.t 14) (.t 53))]
def c115_r9:CL:=[cq 54 (.ldo 11 1 false (.t 11))]
def c115_r10:CL:=[cq 55 (.ldo 14 2 true (.t 14)),
 cn (.sto 10 2 (.t 10) (.t 55)),
 cn (.sto 11 1 (.t 11) (.bool false))]
def c115_r11:CL:=[cq 56 (.fld 0 (.t 10)),
 cq 57 (.ldo 10 1 false (.t 56)),
 cq 58 (.fld 0 (.t 14)),
 cq 59 (.ldo 14 1 false (.t 58)),
 cq 60 (.yy (.mx true (.t 57) (.t 59))),
 cq 61 (.fld 1 (.t 10)),
 cq 62 (.ldo 10 1 false (.t 61)),
 cq 63 (.fld 1 (.t 14)),
 cq 64 (.ldo 14 1 false (.t 63)),
 cq 65 (.yy (.mx false (.t 62) (.t 64))),
 cq 66 (.bld [ci 0,ci 0] [(0,1,.t 60),(1,1,.t 65)]),
 cn (.sto 10 2 (.t 10) (.t 66))]
def c115_b0a:AC:=.ops c115_r6 false
def c115_b0:AC:=.block 1 (.seq (.ops c115_r7 true) (.seq (.ops c115_r8 true) (.seq (cs c115_r9 (.cond (.t 54) (co c115_r10) (.skip))) (co c115_r11))))
def c115_r12:CL:=[cq 67 (.ldo 10 2 true (.t 10)),
 cn (.sto 6 2 (.t 6) (.t 67)),
 cq 7 (.mov (ci 0))]
def c115:AFn:=⟨68,[.cell 6 2 true,.tmp 7],cs c115_r0 (.seq (.ops c115_r1 true) (.seq (cs c115_r2 (.cond (.t 24) (cs c115_r3 (.ret)) (.skip))) (cs c115_r4 (.seq (cs c115_r5 (.block 0 (.range (.t 29) [30] c115_b0a c115_b0 [4,5,6,8,10,11] [6,8,10,11]))) (cs c115_r12 (.ret))))))⟩
def c116_r0:CL:=[cq 3 (.boxi (.t 0)),
 cq 5 (.boxi (.t 2)),
 cq 6 (.mov (.nil 1)),
 cq 7 (.mov (ci 0))]
def c116_r1:CL:=[cq 13 (.ldi 3 true (.t 3)),
 cm 14 1,
 cq 15 (.call 160 [.t 13,.t 14] []),
 cm 12 15,
 cq 16 (.ext (.t 12) 0),
 cq 17 (.ext (.t 12) 1),
 cq 8 (.alo 8 [.nil 5,.nil 5,ci 0,.nilm]),
 cn (.sto 8 4 (.t 8) (.t 16)),
 cm 9 17]
def c116_r2:CL:=[cm 18 9,
 cq 19 (.bin .neq (.t 18) (ci 0))]
def c116_r3:CL:=[cm 20 9,
 cq 6 (.mov (.nil 1)),
 cm 7 20]
def c116_r4:CL:=[cq 21 (.yy (.mkm 21 none)),
 cq 10 (.alo 10 [.nilm]),
 cn (.sto 10 1 (.t 10) (.t 21))]
def c116_r5:CL:=[cq 22 (.ldo 8 4 true (.t 8)),
 cq 23 (.yy (.mkf 161 [.t 22] []))]
def c116_r6:CL:=[cq 11 (.alo 11 [.nil 1,.nil 2,.nilm]),
 cn (.sto 11 3 (.t 11) (.t 24))]
def c116_r7:CL:=[cq 25 (.ldo 10 1 false (.t 10)),
 cq 26 (.ldi 1 false (.t 5)),
 cq 27 (.ldo 11 3 true (.t 11)),
 cq 28 (.calld (.t 26) [.t 27] []),
 cq 29 (.yy (.lkd 21 (some .i64) (ci 0) (.t 25) (.t 28))),
 cq 30 (.bin .add (.t 29) (ci 1)),
 cn (.yy (.mupd 21 (some .i64) (.t 25) (.t 28) (.t 30)))]
def c116_b0a:AC:=.ops c116_r6 false
def c116_b0:AC:=.block 1 (.ops c116_r7 true)
def c116_r8:CL:=[cq 31 (.ldo 10 1 false (.t 10)),
 cq 32 (.call 96 [.t 31] []),
 cq 33 (.call 95 [.t 32] []),
 cm 6 33,
 cq 7 (.mov (ci 0))]
def c116:AFn:=⟨34,[.tmp 6,.tmp 7],cs c116_r0 (cs c116_r1 (.seq (cs c116_r2 (.cond (.t 19) (cs c116_r3 (.ret)) (.skip))) (cs c116_r4 (.seq (cs c116_r5 (.block 0 (.range (.t 23) [24] c116_b0a c116_b0 [5,10] [10,21]))) (.seq (.fz [10] [10] (co c116_r8)) (.ret))))))⟩
def c117_r0:CL:=[cq 1 (.boxi (.t 0)),
 cq 2 (.mov (.nilf))]
def c117_r1:CL:=[cq 3 (.yy (.mkf 162 [] [.t 1])),
 cm 2 3]
def c117:AFn:=⟨4,[.tmp 2],cs c117_r0 (cs c117_r1 (.ret))⟩
def c118_r0:CL:=[cq 2 (.boxi (.t 0)),
 cq 3 (.mov (ci 0))]
def c118_r1:CL:=[cq 4 (.ldi 3 true (.t 2)),
 cq 5 (.call 120 [.t 4] []),
 cq 6 (.ldi 1 false (.t 1)),
 cq 7 (.call 119 [.t 5,.t 6] []),
 cm 3 7]
def c118:AFn:=⟨8,[.tmp 3],cs c118_r0 (.seq (.ops c118_r1 true) (.ret))⟩
def c119_r0:CL:=[cq 4 (.mov (ci 0))]
def c119_r1:CL:=[cm 6 0,
 cq 7 (.len (.t 6)),
 cq 8 (.mov (ci 0))]
def c119_r2:CL:=[cq 9 (.bin .lss (.t 8) (.t 7))]
def c119_r3:CL:=[cm 10 8,
 cm 5 10]
def c119_r4:CL:=[cm 11 1,
 cm 12 0,
 cm 13 5,
 cq 14 (.ixi 1 (.t 12) (.t 13)),
 cq 15 (.ldi 1 false (.t 14)),
 cq 16 (.bin .eql (.t 11) (.t 15))]
def c119_r5:CL:=[cm 17 5,
 cm 4 17]
def c119_r6:CL:=[cq 18 (.bin .add (.t 8) (ci 1)),
 cm 8 18]
def c119_b0:AC:=cs c119_r2 (.seq (.cond (.t 9) (.skip) (.exit 0)) (.seq (.block 1 (cs c119_r3 (cs c119_r4 (.cond (.t 16) (cs c119_r5 (.ret)) (.skip))))) (co c119_r6)))
def c119_r7:CL:=[cq 4 (.mov (.int .i64 (-1)))]
def c119:AFn:=⟨19,[.tmp 4],cs c119_r0 (.seq (cs c119_r1 (.block 0 (.loop c119_b0 [0,1,7,8] []))) (cs c119_r7 (.ret)))⟩
def c120_r0:CL:=[cq 1 (.boxi (.t 0)),
 cq 2 (.mov (.nil 1))]
def c120_r1:CL:=[cq 3 (.fld 0 (.t 1)),
 cq 4 (.ldi 1 false (.t 3)),
 cq 5 (.fld 0 (.t 1)),
 cq 6 (.ldi 1 false (.t 5)),
 cq 7 (.len (.t 6)),
 cq 8 (.bin .sub (.t 7) (ci 1)),
 cq 9 (.ixi 1 (.t 4) (.t 8)),
 cq 10 (.ldi 1 false (.t 9)),
 cm 2 10]
def c120:AFn:=⟨11,[.tmp 2],cs c120_r0 (cs c120_r1 (.ret))⟩
def c121_r0:CL:=[cq 0 (.alo 0 [.nil 5,.nil 5,ci 0]),
 cq 1 (.alo 1 [ci 0,ci 0,ci 0,ci 0,ci 0]),
 cq 2 (.alo 2 [ci 0,ci 0,ci 0,ci 0,ci 0])]
def c121_r1:CL:=[cq 3 (.bld [ci 0,ci 0,ci 0,ci 0,ci 0] [(0,1,ci 1),(3,1,ci 5),(4,1,ci 1)]),
 cq 4 (.bld [ci 0,ci 0,ci 0,ci 0,ci 0] [(0,1,ci 1),(1,1,ci 1),(3,1,ci 5),(4,1,ci 2)]),
 cq 5 (.bld [ci 0,ci 0,ci 0,ci 0,ci 0] [(0,1,ci 1),(1,1,ci 2),(3,1,ci 6),(4,1,ci 1)]),
 cq 6 (.bld [ci 0,ci 0,ci 0,ci 0,ci 0] [(0,1,ci 4)]),
 cq 7 (.bld [ci 0,ci 0,ci 0,ci 0,ci 0] [(0,1,ci 2),(2,1,ci 2)]),
 cq 8 (.bld [ci 0,ci 0,ci 0,ci 0,ci 0] [(0,1,ci 1),(2,1,ci 1),(3,1,ci 7),(4,1,ci 2)]),
 cq 9 (.bso 9 56 5 [.t 3,.t 4,.t 5,.t 6,.t 7,.t 8]),
 cq 10 (.bld [.nil 5,.nil 5,ci 0] [(0,1,.t 9)]),
 cn (.sto 0 3 (.t 0) (.t 10))]
def c121_r2:CL:=[cq 11 (.ldo 0 3 true (.t 0)),
 cq 12 (.bld [ci 0,ci 0,ci 0,ci 0,ci 0] [(0,1,ci 6),(1,1,ci 1),(3,1,ci 6),(4,1,.int .i64 (-1))]),
 cq 13 (.bld [ci 0,ci 0,ci 0,ci 0,ci 0] [(0,1,ci 6),(3,1,.int .i64 (-1)),(4,1,ci 1)]),
 cn (.sto 0 3 (.t 0) (.t 11)),
 cn (.sto 1 5 (.t 1) (.t 12)),
 cn (.sto 2 5 (.t 2) (.t 13))]
def c121:AFn:=⟨14,[.cell 0 3 true,.cell 1 5 true,.cell 2 5 true],cs c121_r0 (cs c121_r1 (cs c121_r2 (.ret)))⟩
def c122_r0:CL:=[cq 0 (.alo 0 [.nil 3,ci 0,ci 0,ci 0,.nil 4,ci 0])]
def c122_r1:CL:=[cq 1 (.bld [ci 0,ci 0] [(0,1,ci 10),(1,1,ci 11)]),
 cq 2 (.bld [ci 0,ci 0,ci 0] [(0,1,ci 100),(1,2,.t 1)]),
 cq 3 (.bld [ci 0,ci 0] [(0,1,ci 5),(1,1,ci 5)]),
 cq 4 (.bld [ci 0,ci 0,ci 0] [(0,1,ci 50),(1,2,.t 3)]),
 cq 5 (.bsl 3 [.t 2,.t 4]),
 cq 6 (.bld [ci 0,ci 0] [(0,1,ci 1),(1,1,ci 2)]),
 cq 7 (.bld [ci 0,ci 0,ci 0,ci 0] [(0,1,ci 10),(1,1,ci 5),(2,1,ci 2500),(3,1,ci 250)]),
 cq 8 (.bsl 4 [.t 7]),
 cq 9 (.bld [.nil 3,ci 0,ci 0,ci 0,.nil 4,ci 0] [(0,1,.t 5),(1,1,ci 20),(2,2,.t 6),(4,1,.t 8)]),
 cn (.sto 0 6 (.t 0) (.t 9))]
def c122:AFn:=⟨10,[.cell 0 6 true],cs c122_r0 (cs c122_r1 (.ret))⟩
def c123_r0:CL:=[cq 2 (.boxi (.t 0)),
 cq 4 (.mov (.bool false))]
def c123_r1:CL:=[cq 10 (.fld 0 (.t 2)),
 cq 11 (.ldi 1 false (.t 10)),
 cq 12 (.call 163 [.t 11,.fn 164] []),
 cm 5 12]
def c123_r2:CL:=[cm 13 5,
 cq 14 (.bin .lss (.t 13) (ci 0))]
def c123_r3:CL:=[cq 16 (.ldi 3 true (.t 2)),
 cq 17 (.call 165 [.t 16] []),
 cm 15 17,
 cq 18 (.ext (.t 15) 0),
 cq 19 (.ext (.t 15) 1),
 cm 6 18,
 cm 7 19]
def c123_r4:CL:=[cm 20 7,
 cq 21 (.bin .neq (.t 20) (ci 0))]
def c123_r5:CL:=[cq 4 (.mov (.bool true))]
def c123_r6:CL:=[cm 22 1,
 cq 23 (.ldi 3 true (.t 2)),
 cq 24 (.callb (.t 22) [.t 23] 0),
 cm 4 24]
def c123_r7:CL:=[cq 25 (.mov (ci 0))]
def c123_r8:CL:=[cq 26 (.bin .lss (.t 25) (ci 2))]
def c123_r9:CL:=[cm 27 25,
 cm 8 27]
def c123_r10:CL:=[cq 28 (.ldi 3 true (.t 2)),
 cq 9 (.alo 9 [.nil 5,.nil 5,ci 0]),
 cn (.sto 9 3 (.t 9) (.t 28))]
def c123_r11:CL:=[cq 29 (.fld 0 (.t 2)),
 cq 30 (.ldi 1 false (.t 29)),
 cq 31 (.callo 166 [.t 30] [] 31),
 cq 32 (.fld 0 (.t 9)),
 cn (.sto 9 1 (.t 32) (.t 31))]
def c123_r12:CL:=[cq 33 (.fld 0 (.t 9)),
 cq 34 (.ldo 9 1 false (.t 33)),
 cm 35 5,
 cm 36 8,
 cq 37 (.ixo 31 5 (.t 34) (.t 35)),
 cq 38 (.fld 2 (.t 37)),
 cn (.sto 31 1 (.t 38) (.t 36))]
def c123_r13:CL:=[cq 39 (.ldo 9 3 true (.t 9)),
 cm 40 1,
 cq 41 (.callx 123 [.t 39,.t 40] 0),
 cq 42 (.not (.t 41))]
def c123_r14:CL:=[cq 4 (.mov (.bool false))]
def c123_r15:CL:=[cq 43 (.bin .add (.t 25) (ci 1)),
 cm 25 43]
def c123_b0:AC:=cs c123_r8 (.seq (.cond (.t 26) (.skip) (.exit 0)) (.seq (.block 1 (cs c123_r9 (cs c123_r10 (cs c123_r11 (cs c123_r12 (.seq (.fz [1,2,5,9,25] [0,9] (co c123_r13)) (.cond (.t 42) (cs c123_r14 (.ret)) (.skip)))))))) (co c123_r15)))
def c123_r16:CL:=[cq 4 (.mov (.bool true))]
def c123:AFn:=⟨44,[.tmp 4],cs c123_r0 (cs c123_r1 (.seq (cs c123_r2 (.cond (.t 14) (.seq (cs c123_r3 (cs c123_r4 (.cond (.t 21) (cs c123_r5 (.ret)) (.skip)))) (cs c123_r6 (.ret))) (.skip))) (.seq (cs c123_r7 (.block 0 (.loop c123_b0 [1,2,5,25] [0]))) (cs c123_r16 (.ret)))))⟩
def c124_r0:CL:=[cq 3 (.boxi (.t 0)),
 cq 4 (.mov (.bool false))]
def c124_r1:CL:=[cq 5 (.ldo 0 1 false (.t 1)),
 cq 6 (.ldo 0 1 false (.t 1)),
 cq 7 (.nilc (.t 6)),
 cq 8 (.fld 12 (.t 7)),
 cq 9 (.ldo 1 1 false (.t 8)),
 cq 10 (.ldi 3 true (.t 3)),
 cq 11 (.fld 9 (.t 2)),
 cq 12 (.ldi 1 false (.t 11)),
 cq 13 (.call 125 [.t 10,.t 12] []),
 cq 14 (.bsl 3 [.t 13]),
 cq 15 (.app 2 97 3 72 (.t 9) (.t 14)),
 cq 16 (.nilc (.t 5)),
 cq 17 (.fld 12 (.t 16)),
 cn (.sto 1 1 (.t 17) (.t 15))]
def c124_r2:CL:=[cq 4 (.mov (.bool true))]
def c124:AFn:=⟨18,[.tmp 4],cs c124_r0 (.seq (.ops c124_r1 true) (cs c124_r2 (.ret)))⟩
def c125_r0:CL:=[cq 2 (.boxi (.t 0)),
 cq 3 (.boxi (.t 1)),
 cq 4 (.alo 4 [.nil 1,.nil 1,.nil 1])]
def c125_r1:CL:=[cq 13 (.ldi 3 true (.t 2)),
 cq 14 (.fld 0 (.t 2)),
 cq 15 (.ldi 1 false (.t 14)),
 cq 16 (.len (.t 15)),
 cq 17 (.call 84 [.t 13,.t 16] []),
 cq 18 (.call 167 [.t 17] []),
 cq 19 (.bld [.nilv 1,.nilv 1,.nil 1] [(2,1,.t 18)]),
 cq 5 (.alo 5 [.nil 1,.nil 1,.nil 1]),
 cn (.sto 5 3 (.t 5) (.t 19))]
def c125_r2:CL:=[cq 20 (.ldi 3 true (.t 2)),
 cq 21 (.call 82 [.t 20] [])]
def c125_r3:CL:=[cm 6 22]
def c125_r4:CL:=[cm 7 23]
def c125_r5:CL:=[cq 24 (.ldi 3 true (.t 2)),
 cm 25 7,
 cq 26 (.call 84 [.t 24,.t 25] []),
 cq 27 (.call 167 [.t 26] []),
 cm 8 27,
 cq 9 (.mov (.int .u64 0))]
def c125_r6:CL:=[cm 28 8,
 cq 29 (.len (.t 28)),
 cq 30 (.mov (ci 0))]
def c125_r7:CL:=[cq 31 (.bin .lss (.t 30) (.t 29))]
def c125_r8:CL:=[cq 32 (.ixi 1 (.t 28) (.t 30)),
 cq 33 (.ldi 1 false (.t 32)),
 cm 11 33]
def c125_r9:CL:=[cm 34 9,
 cm 35 11,
 cq 36 (.bin .shl (.int .u64 1) (.t 35)),
 cq 37 (.bin .or (.t 34) (.t 36)),
 cm 9 37]
def c125_r10:CL:=[cq 38 (.bin .add (.t 30) (ci 1)),
 cm 30 38]
def c125_b0:AC:=cs c125_r7 (.seq (.cond (.t 31) (.skip) (.exit 2)) (.seq (.block 3 (cs c125_r8 (co c125_r9))) (co c125_r10)))
def c125_r11:CL:=[cq 39 (.fld 0 (.t 5)),
 cq 40 (.ldo 5 1 false (.t 39)),
 cm 41 9,
 cq 42 (.bsl 1 [.t 41]),
 cq 43 (.app 6000 104 1 8 (.t 40) (.t 42)),
 cq 44 (.fld 0 (.t 5)),
 cn (.sto 5 1 (.t 44) (.t 43))]
def c125_r12:CL:=[cq 45 (.ldi 1 false (.t 3)),
 cm 46 6,
 cq 47 (.ixi 3 (.t 45) (.t 46)),
 cq 48 (.fld 2 (.t 47)),
 cq 49 (.ldi 1 false (.t 48)),
 cm 12 49]
def c125_r13:CL:=[cm 50 12,
 cq 51 (.bin .geq (.t 50) (ci 0))]
def c125_r14:CL:=[cq 52 (.fld 1 (.t 5)),
 cq 53 (.ldo 5 1 false (.t 52)),
 cm 54 8,
 cm 55 12,
 cq 56 (.ixi 1 (.t 54) (.t 55)),
 cq 57 (.ldi 1 false (.t 56)),
 cq 58 (.bsl 1 [.t 57]),
 cq 59 (.app 6001 3 1 8 (.t 53) (.t 58)),
 cq 60 (.fld 1 (.t 5)),
 cn (.sto 5 1 (.t 60) (.t 59))]
def c125_r15:CL:=[cq 61 (.fld 1 (.t 5)),
 cq 62 (.ldo 5 1 false (.t 61)),
 cq 63 (.bsl 1 [.int .i64 (-1)]),
 cq 64 (.app 6001 3 1 8 (.t 62) (.t 63)),
 cq 65 (.fld 1 (.t 5)),
 cn (.sto 5 1 (.t 65) (.t 64))]
def c125_b1a:AC:=cs c125_r3 (co c125_r4)
def c125_b1:AC:=.block 1 (cs c125_r5 (.seq (cs c125_r6 (.block 2 (.loop c125_b0 [2,3,4,5,6,8,9,28,29,30] [4,5,6000,6001]))) (cs c125_r11 (cs c125_r12 (cs c125_r13 (.cond (.t 51) (.ops c125_r14 true) (co c125_r15)))))))
def c125_r16:CL:=[cq 66 (.ldo 5 3 true (.t 5)),
 cn (.sto 4 3 (.t 4) (.t 66))]
def c125:AFn:=⟨67,[.cell 4 3 true],cs c125_r0 (cs c125_r1 (.gh 6000 5 0 104 1 (.gh 6001 5 1 3 1 (.seq (cs c125_r2 (.block 0 (.range (.t 21) [22,23] c125_b1a c125_b1 [2,3,4,5] [4,5,6000,6001]))) (cs c125_r16 (.ret))))))⟩
def c126_r0:CL:=[cq 3 (.boxi (.t 0)),
 cq 6 (.mov (.bool false))]
def c126_r1:CL:=[cq 12 (.ldi 6 true (.t 3)),
 cq 7 (.alo 7 [.nil 3,ci 0,ci 0,ci 0,.nil 4,ci 0]),
 cn (.sto 7 6 (.t 7) (.t 12))]
def c126_r2:CL:=[cm 13 1,
 cq 14 (.fld 0 (.t 3)),
 cq 15 (.ldi 1 false (.t 14)),
 cq 16 (.len (.t 15)),
 cq 17 (.bin .eql (.t 13) (.t 16))]
def c126_r3:CL:=[cq 18 (.fld 2 (.t 3)),
 cq 19 (.fld 0 (.t 18)),
 cq 20 (.ldi 1 false (.t 19)),
 cm 8 20]
def c126_r4:CL:=[cm 21 8,
 cq 22 (.fld 2 (.t 3)),
 cq 23 (.fld 1 (.t 22)),
 cq 24 (.ldi 1 false (.t 23)),
 cq 25 (.bin .leq (.t 21) (.t 24))]
def c126_r6:CL:=[cm 28 8,
 cm 29 8,
 cq 30 (.bld [ci 0,ci 0] [(0,1,.t 28),(1,1,.t 29)]),
 cq 31 (.fld 2 (.t 7)),
 cn (.sto 7 2 (.t 31) (.t 30))]
def c126_r7:CL:=[cq 33 (.ldo 7 6 true (.t 7)),
 cq 34 (.call 168 [.t 33] [65]),
 cm 32 34,
 cq 35 (.ext (.t 32) 0),
 cq 36 (.ext (.t 32) 1),
 cm 9 35,
 cm 10 36]
def c126_r8:CL:=[cm 37 10,
 cq 38 (.bin .eql (.t 37) (ci 0)),
 cm 39 38,
 cw 40 39 2,
 cu 41 39 (.ldo 7 6 true (.t 7)),
 cu 42 39 (.callb (.t 40) [.t 41] 0),
 cu 43 39 (.not (.t 42)),
 cq 44 (.pick (.t 39) (.t 43) (.bool false))]
def c126_r9:CL:=[cq 6 (.mov (.bool false))]
def c126_r5:CL:=[cm 26 8,
 cq 27 (.bin .add (.t 26) (ci 1)),
 cm 8 27]
def c126_b0:AC:=.seq (cs c126_r4 (.cond (.t 25) (.skip) (.exit 0))) (.seq (.block 1 (cs c126_r6 (cs c126_r7 (cs c126_r8 (.cond (.t 44) (cs c126_r9 (.ret)) (.skip)))))) (co c126_r5))
def c126_r10:CL:=[cq 6 (.mov (.bool true))]
def c126_r11:CL:=[cq 45 (.fld 0 (.t 3)),
 cq 46 (.ldi 1 false (.t 45)),
 cm 47 1,
 cq 48 (.ixi 3 (.t 46) (.t 47)),
 cq 49 (.fld 1 (.t 48)),
 cq 50 (.fld 0 (.t 49)),
 cq 51 (.ldi 1 false (.t 50)),
 cm 11 51]
def c126_r12:CL:=[cm 52 11,
 cq 53 (.fld 0 (.t 3)),
 cq 54 (.ldi 1 false (.t 53)),
 cm 55 1,
 cq 56 (.ixi 3 (.t 54) (.t 55)),
 cq 57 (.fld 1 (.t 56)),
 cq 58 (.fld 1 (.t 57)),
 cq 59 (.ldi 1 false (.t 58)),
 cq 60 (.bin .leq (.t 52) (.t 59))]
def c126_r14:CL:=[cq 63 (.fld 0 (.t 3)),
 cq 64 (.ldi 1 false (.t 63)),
 cq 65 (.callo 169 [.t 64] [] 65),
 cq 66 (.fld 0 (.t 7)),
 cn (.sto 7 1 (.t 66) (.t 65))]
def c126_r15:CL:=[cq 67 (.fld 0 (.t 7)),
 cq 68 (.ldo 7 1 false (.t 67)),
 cm 69 1,
 cm 70 11,
 cm 71 11,
 cq 72 (.bld [ci 0,ci 0] [(0,1,.t 70),(1,1,.t 71)]),
 cq 73 (.ixo 65 3 (.t 68) (.t 69)),
 cq 74 (.fld 1 (.t 73)),
 cn (.sto 65 2 (.t 74) (.t 72))]
def c126_r16:CL:=[cq 75 (.ldo 7 6 true (.t 7)),
 cm 76 1,
 cq 77 (.bin .add (.t 76) (ci 1)),
 cm 78 2,
 cq 79 (.callx 126 [.t 75,.t 77,.t 78] 0),
 cq 80 (.not (.t 79))]
def c126_r17:CL:=[cq 6 (.mov (.bool false))]
def c126_r13:CL:=[cm 61 11,
 cq 62 (.bin .add (.t 61) (ci 1)),
 cm 11 62]
def c126_b1:AC:=.seq (cs c126_r12 (.cond (.t 60) (.skip) (.exit 2))) (.seq (.block 3 (cs c126_r14 (cs c126_r15 (.seq (.fz [1,2,3,7,11] [0,7] (co c126_r16)) (.cond (.t 80) (cs c126_r17 (.ret)) (.skip)))))) (co c126_r13))
def c126_r18:CL:=[cq 6 (.mov (.bool true))]
def c126:AFn:=⟨81,[.tmp 6],cs c126_r0 (cs c126_r1 (.seq (cs c126_r2 (.cond (.t 17) (.seq (cs c126_r3 (.block 0 (.loop c126_b0 [2,3,7,8] [0,7,65]))) (cs c126_r10 (.ret))) (.skip))) (.seq (cs c126_r11 (.block 2 (.loop c126_b1 [1,2,3,7,11] [0,7,65]))) (cs c126_r18 (.ret)))))⟩
def c127_r0:CL:=[cq 3 (.boxi (.t 0)),
 cq 4 (.mov (.bool false))]
def c127_r1:CL:=[cq 5 (.nilo 5 28 2)]
def c127_r2:CL:=[cq 10 (.fld 9 (.t 1)),
 cq 11 (.ldi 1 false (.t 10)),
 cq 12 (.len (.t 11)),
 cq 13 (.mov (ci 0))]
def c127_r3:CL:=[cq 14 (.bin .lss (.t 13) (.t 12))]
def c127_r4:CL:=[cq 15 (.ixi 3 (.t 11) (.t 13)),
 cq 16 (.ldi 3 true (.t 15)),
 cq 7 (.alo 7 [ci 0,ci 0,ci 0]),
 cn (.sto 7 3 (.t 7) (.t 16))]
def c127_r5:CL:=[cq 18 (.ldi 6 true (.t 3)),
 cq 19 (.fld 0 (.t 7)),
 cq 20 (.ldo 7 1 false (.t 19)),
 cq 21 (.fld 1 (.t 7)),
 cq 22 (.ldo 7 1 false (.t 21)),
 cq 23 (.call 115 [.t 18,.t 20,.t 22] []),
 cm 17 23,
 cq 24 (.ext (.t 17) 0),
 cq 25 (.ext (.t 17) 1),
 cq 8 (.alo 8 [ci 0,ci 0]),
 cn (.sto 8 2 (.t 8) (.t 24)),
 cm 9 25]
def c127_r6:CL:=[cm 26 5,
 cq 27 (.ldo 8 2 true (.t 8)),
 cq 28 (.bsl 2 [.t 27]),
 cq 29 (.app 5 28 2 16 (.t 26) (.t 28)),
 cm 5 29]
def c127_r7:CL:=[cq 30 (.bin .add (.t 13) (ci 1)),
 cm 13 30]
def c127_b0:AC:=cs c127_r3 (.seq (.cond (.t 14) (.skip) (.exit 0)) (.seq (.block 1 (cs c127_r4 (cs c127_r5 (co c127_r6)))) (co c127_r7)))
def c127_r8:CL:=[cq 31 (.ldo 0 1 false (.t 2)),
 cq 32 (.ldo 0 1 false (.t 2)),
 cq 33 (.nilc (.t 32)),
 cq 34 (.fld 13 (.t 33)),
 cq 35 (.ldo 1 1 false (.t 34)),
 cm 36 5,
 cq 37 (.bsl 1 [.t 36]),
 cq 38 (.app 3 98 1 24 (.t 35) (.t 37)),
 cq 39 (.nilc (.t 31)),
 cq 40 (.fld 13 (.t 39)),
 cn (.sto 1 1 (.t 40) (.t 38))]
def c127_r9:CL:=[cq 4 (.mov (.bool true))]
def c127:AFn:=⟨41,[.tmp 4],cs c127_r0 (cs c127_r1 (.seq (cs c127_r2 (.block 0 (.loop c127_b0 [2,3,5,11,12,13] [0,1,2,3,5]))) (.seq (.fz [2,5] [0,1,2,3] (.ops c127_r8 true)) (cs c127_r9 (.ret)))))⟩
def c128_r0:CL:=[cq 3 (.mov (.bool false))]
def c128_r1:CL:=[cq 4 (.ldi 1 false (.t 1)),
 cm 5 0,
 cq 6 (.call 71 [.t 4,.t 5] []),
 cq 7 (.not (.t 6)),
 cm 3 7]
def c128:AFn:=⟨8,[.tmp 3],cs c128_r0 (cs c128_r1 (.ret))⟩
def c129_r0:CL:=[cq 4 (.mov (.bool false))]
def c129_r1:CL:=[cm 5 0,
 cm 6 1,
 cq 7 (.call 170 [.t 5,.t 6] []),
 cq 8 (.bin .geq (.t 7) (ci 0)),
 cm 4 8]
def c129:AFn:=⟨9,[.tmp 4],cs c129_r0 (cs c129_r1 (.ret))⟩
def c130_r0:CL:=[cq 6 (.mov (.bool false))]
def c130_r1:CL:=[cm 7 1,
 cm 8 0,
 cq 9 (.bin .leq (.t 7) (.t 8)),
 cm 10 9,
 cw 11 10 0,
 cw 12 10 2,
 cu 13 10 (.bin .leq (.t 11) (.t 12)),
 cq 14 (.pick (.t 10) (.t 13) (.bool false)),
 cm 6 14]
def c130:AFn:=⟨15,[.tmp 6],cs c130_r0 (cs c130_r1 (.ret))⟩
def c131_r0:CL:=[cq 2 (.boxi (.t 0)),
 cq 4 (.mov (.bool false))]
def c131_r1:CL:=[cq 5 (.fld 0 (.t 2)),
 cq 6 (.ldi 1 false (.t 5))]
def c131_r2:CL:=[cq 8 (.bin .eql (.t 6) (ci 1)),
 cm 7 8]
def c131_r3:CL:=[cq 9 (.fld 2 (.t 2)),
 cq 10 (.ldi 1 false (.t 9)),
 cq 11 (.call 130 [.t 10,ci 0,ci 2] []),
 cm 12 11,
 cu 13 12 (.fld 1 (.t 2)),
 cu 14 12 (.ldi 1 false (.t 13)),
 cw 15 12 1,
 cu 16 12 (.call 130 [.t 14,ci 0,.t 15] []),
 cq 17 (.pick (.t 12) (.t 16) (.bool false)),
 cm 18 17,
 cu 19 18 (.fld 3 (.t 2)),
 cu 20 18 (.ldi 1 false (.t 19)),
 cu 21 18 (.fld 4 (.t 2)),
 cu 22 18 (.ldi 1 false (.t 21)),
 cu 23 18 (.call 133 [.t 20,.t 22,ci 0] []),
 cq 24 (.pick (.t 18) (.t 23) (.bool false)),
 cm 4 24]
def c131_r4:CL:=[cq 26 (.bin .eql (.t 6) (ci 2)),
 cm 25 26]
def c131_r5:CL:=[cq 27 (.ldi 5 true (.t 2)),
 cq 28 (.fld 1 (.t 2)),
 cq 29 (.ldi 1 false (.t 28)),
 cq 30 (.fld 2 (.t 2)),
 cq 31 (.ldi 1 false (.t 30)),
 cq 32 (.bld [ci 0,ci 0,ci 0,ci 0,ci 0] [(0,1,ci 2),(1,1,.t 29),(2,1,.t 31)]),
 cq 33 (.yy (.eqs false 5 (.t 27) (.t 32))),
 cm 34 33,
 cu 35 34 (.fld 2 (.t 2)),
 cu 36 34 (.ldi 1 false (.t 35)),
 cu 37 34 (.call 130 [.t 36,ci 0,ci 2] []),
 cq 38 (.pick (.t 34) (.t 37) (.bool false)),
 cm 39 38,
 cu 40 39 (.fld 1 (.t 2)),
 cu 41 39 (.ldi 1 false (.t 40)),
 cw 42 39 1,
 cu 43 39 (.bin .sub (.t 42) (ci 1)),
 cu 44 39 (.call 130 [.t 41,ci 0,.t 43] []),
 cq 45 (.pick (.t 39) (.t 44) (.bool false)),
 cm 4 45]
def c131_r6:CL:=[cq 47 (.bin .eql (.t 6) (ci 3)),
 cm 46 47]
def c131_r7:CL:=[cq 48 (.bin .eql (.t 6) (ci 4)),
 cm 46 48]
def c131_r8:CL:=[cq 49 (.ldi 5 true (.t 2)),
 cq 50 (.fld 0 (.t 2)),
 cq 51 (.ldi 1 false (.t 50)),
 cq 52 (.bld [ci 0,ci 0,ci 0,ci 0,ci 0] [(0,1,.t 51)]),
 cq 53 (.yy (.eqs false 5 (.t 49) (.t 52))),
 cm 4 53]
def c131_r9:CL:=[cq 4 (.mov (.bool false))]
def c131:AFn:=⟨54,[.tmp 4],cs c131_r0 (.seq (cs c131_r1 (.block 0 (cs c131_r2 (.cond (.t 7) (cs c131_r3 (.ret)) (cs c131_r4 (.cond (.t 25) (cs c131_r5 (.ret)) (.seq (cs c131_r6 (.cond (.t 46) (.skip) (co c131_r7))) (.cond (.t 46) (cs c131_r8 (.ret)) (.skip))))))))) (cs c131_r9 (.ret)))⟩
theorem c81_ok:FnOk Tryz.prog 81 c81:=⟨_,Tryz.func81,by kernel_rfl⟩
theorem c82_ok:FnOk Tryz.prog 82 c82:=⟨_,Tryz.func82,by kernel_rfl⟩
theorem c83_ok:FnOk Tryz.prog 83 c83:=⟨_,Tryz.func83,by kernel_rfl⟩
theorem c84_ok:FnOk Tryz.prog 84 c84:=⟨_,Tryz.func84,by kernel_rfl⟩
theorem c85_ok:FnOk Tryz.prog 85 c85:=⟨_,Tryz.func85,by kernel_rfl⟩
theorem c86_ok:FnOk Tryz.prog 86 c86:=⟨_,Tryz.func86,by kernel_rfl⟩
theorem c87_ok:FnOk Tryz.prog 87 c87:=⟨_,Tryz.func87,by kernel_rfl⟩
theorem c88_ok:FnOk Tryz.prog 88 c88:=⟨_,Tryz.func88,by kernel_rfl⟩
theorem c89_ok:FnOk Tryz.prog 89 c89:=⟨_,Tryz.func89,by kernel_rfl⟩
theorem c90_ok:FnOk Tryz.prog 90 c90:=⟨_,Tryz.func90,by kernel_rfl⟩
theorem c91_ok:FnOk Tryz.prog 91 c91:=⟨_,Tryz.func91,by kernel_rfl⟩
theorem c93_ok:FnOk Tryz.prog 93 c93:=⟨_,Tryz.func93,by kernel_rfl⟩
theorem c96_ok:FnOk Tryz.prog 96 c96:=⟨_,Tryz.func96,by kernel_rfl⟩
theorem c102_ok:FnOk Tryz.prog 102 c102:=⟨_,Tryz.func102,by kernel_rfl⟩
theorem c115_ok:FnOk Tryz.prog 115 c115:=⟨_,Tryz.func115,by kernel_rfl⟩
theorem c116_ok:FnOk Tryz.prog 116 c116:=⟨_,Tryz.func116,by kernel_rfl⟩
theorem c117_ok:FnOk Tryz.prog 117 c117:=⟨_,Tryz.func117,by kernel_rfl⟩
theorem c118_ok:FnOk Tryz.prog 118 c118:=⟨_,Tryz.func118,by kernel_rfl⟩
theorem c119_ok:FnOk Tryz.prog 119 c119:=⟨_,Tryz.func119,by kernel_rfl⟩
theorem c120_ok:FnOk Tryz.prog 120 c120:=⟨_,Tryz.func120,by kernel_rfl⟩
theorem c121_ok:FnOk Tryz.prog 121 c121:=⟨_,Tryz.func121,by kernel_rfl⟩
theorem c122_ok:FnOk Tryz.prog 122 c122:=⟨_,Tryz.func122,by kernel_rfl⟩
theorem c123_ok:FnOk Tryz.prog 123 c123:=⟨_,Tryz.func123,by kernel_rfl⟩
theorem c125_ok:FnOk Tryz.prog 125 c125:=⟨_,Tryz.func125,by kernel_rfl⟩
theorem c126_ok:FnOk Tryz.prog 126 c126:=⟨_,Tryz.func126,by kernel_rfl⟩
theorem c128_ok:FnOk Tryz.prog 128 c128:=⟨_,Tryz.func128,by kernel_rfl⟩
theorem c129_ok:FnOk Tryz.prog 129 c129:=⟨_,Tryz.func129,by kernel_rfl⟩
theorem c130_ok:FnOk Tryz.prog 130 c130:=⟨_,Tryz.func130,by kernel_rfl⟩
theorem c131_ok:FnOk Tryz.prog 131 c131:=⟨_,Tryz.func131,by kernel_rfl⟩
end Go.Pf

/- The codes of the functions, as a program of ours has printed them, and that they are the codes of the functions of the program. -/
namespace Go.Pf
open Go Go.Ev Go.Proofs Go.RowKit
def c132_r0:CL:=[cq 1 (.boxi (.t 0)),
 cq 2 (.mov (ci 0))]
def c132_r1:CL:=[cq 3 (.fld 0 (.t 1)),
 cq 4 (.ldi 1 false (.t 3))]
def c132_r2:CL:=[cq 6 (.bin .eql (.t 4) (ci 1)),
 cm 5 6]
def c132_r3:CL:=[cq 2 (.mov (ci 1))]
def c132_r4:CL:=[cq 8 (.bin .eql (.t 4) (ci 2)),
 cm 7 8]
def c132_r5:CL:=[cq 2 (.mov (.int .i64 (-1)))]
def c132_r6:CL:=[cq 2 (.mov (ci 0))]
def c132:AFn:=⟨9,[.tmp 2],cs c132_r0 (.seq (cs c132_r1 (.block 0 (cs c132_r2 (.cond (.t 5) (cs c132_r3 (.ret)) (cs c132_r4 (.cond (.t 7) (cs c132_r5 (.ret)) (.skip))))))) (cs c132_r6 (.ret)))⟩
def c133_r0:CL:=[cq 6 (.mov (.bool false))]
def c133_r1:CL:=[cm 7 0,
 cm 8 2,
 cq 9 (.call 130 [.t 7,.t 8,ci 99] []),
 cm 10 9,
 cw 11 10 1,
 cw 12 10 2,
 cu 13 10 (.call 130 [.t 11,.t 12,ci 99] []),
 cq 14 (.pick (.t 10) (.t 13) (.bool false)),
 cm 6 14]
def c133:AFn:=⟨15,[.tmp 6],cs c133_r0 (cs c133_r1 (.ret))⟩
def c134_r0:CL:=[cq 1 (.boxi (.t 0)),
 cq 2 (.mov (.bool false))]
def c134_r1:CL:=[cq 3 (.fld 0 (.t 1)),
 cq 4 (.ldi 1 false (.t 3)),
 cq 5 (.call 135 [.t 4,ci 1,ci 1000] []),
 cq 6 (.not (.t 5)),
 cm 7 6,
 cv 8 7 (.fld 1 (.t 1)),
 cv 9 7 (.fld 0 (.t 8)),
 cv 10 7 (.ldi 1 false (.t 9)),
 cv 11 7 (.fld 1 (.t 1)),
 cv 12 7 (.fld 1 (.t 11)),
 cv 13 7 (.ldi 1 false (.t 12)),
 cv 14 7 (.call 135 [.t 10,ci 1,.t 13] []),
 cv 15 7 (.not (.t 14)),
 cq 16 (.pick (.t 7) (.bool true) (.t 15)),
 cm 17 16,
 cv 18 17 (.fld 1 (.t 1)),
 cv 19 17 (.fld 1 (.t 18)),
 cv 20 17 (.ldi 1 false (.t 19)),
 cv 21 17 (.bin .gtr (.t 20) (ci 1000)),
 cq 22 (.pick (.t 17) (.bool true) (.t 21)),
 cm 2 22]
def c134:AFn:=⟨23,[.tmp 2],cs c134_r0 (cs c134_r1 (.ret))⟩
def c135_r0:CL:=[cq 6 (.mov (.bool false))]
def c135_r1:CL:=[cm 7 1,
 cm 8 0,
 cq 9 (.bin .leq (.t 7) (.t 8)),
 cm 10 9,
 cw 11 10 0,
 cw 12 10 2,
 cu 13 10 (.bin .leq (.t 11) (.t 12)),
 cq 14 (.pick (.t 10) (.t 13) (.bool false)),
 cm 6 14]
def c135:AFn:=⟨15,[.tmp 6],cs c135_r0 (cs c135_r1 (.ret))⟩
def c136_r0:CL:=[cq 1 (.boxi (.t 0)),
 cq 2 (.mov (.bool false))]
def c136_r1:CL:=[cq 3 (.fld 0 (.t 1)),
 cq 4 (.ldi 1 false (.t 3)),
 cq 5 (.fld 1 (.t 1)),
 cq 6 (.ldi 1 false (.t 5)),
 cq 7 (.fld 2 (.t 1)),
 cq 8 (.ldi 1 false (.t 7)),
 cq 9 (.call 137 [.t 4,.t 6,.t 8] []),
 cq 10 (.not (.t 9)),
 cm 11 10,
 cv 12 11 (.fld 3 (.t 1)),
 cv 13 11 (.ldi 1 false (.t 12)),
 cv 14 11 (.call 135 [.t 13,ci 0,ci 999999999] []),
 cv 15 11 (.not (.t 14)),
 cq 16 (.pick (.t 11) (.bool true) (.t 15)),
 cm 2 16]
def c136:AFn:=⟨17,[.tmp 2],cs c136_r0 (cs c136_r1 (.ret))⟩
def c137_r0:CL:=[cq 6 (.mov (.bool false))]
def c137_r1:CL:=[cm 7 0,
 cq 8 (.call 135 [.t 7,ci 0,ci 9999] []),
 cm 9 8,
 cw 10 9 1,
 cu 11 9 (.call 135 [.t 10,ci 0,ci 99] []),
 cq 12 (.pick (.t 9) (.t 11) (.bool false)),
 cm 13 12,
 cw 14 13 2,
 cu 15 13 (.call 135 [.t 14,ci 0,ci 999999999] []),
 cq 16 (.pick (.t 13) (.t 15) (.bool false)),
 cm 6 16]
def c137:AFn:=⟨17,[.tmp 6],cs c137_r0 (cs c137_r1 (.ret))⟩
def c138_r0:CL:=[cq 4 (.mov (.bool false))]
def c138_r1:CL:=[cm 5 0,
 cm 6 1,
 cq 7 (.call 171 [.t 5,.t 6] []),
 cq 8 (.bin .geq (.t 7) (ci 0)),
 cm 4 8]
def c138:AFn:=⟨9,[.tmp 4],cs c138_r0 (cs c138_r1 (.ret))⟩
def c139_r0:CL:=[cq 4 (.mov (.bool false))]
def c139_r1:CL:=[cm 5 0,
 cm 6 1,
 cq 7 (.call 172 [.t 5,.t 6] []),
 cq 8 (.bin .geq (.t 7) (ci 0)),
 cm 4 8]
def c139:AFn:=⟨9,[.tmp 4],cs c139_r0 (cs c139_r1 (.ret))⟩
def c140_r0:CL:=[cq 3 (.mov (ci 0))]
def c140_r1:CL:=[cq 6 (.fld 0 (.t 1)),
 cq 7 (.ldi 1 false (.t 6)),
 cq 8 (.len (.t 7)),
 cq 9 (.mov (ci 0))]
def c140_r2:CL:=[cq 10 (.bin .lss (.t 9) (.t 8))]
def c140_r3:CL:=[cm 11 9,
 cq 12 (.ixi 5 (.t 7) (.t 9)),
 cq 13 (.ldi 5 true (.t 12)),
 cq 5 (.alo 5 [ci 0,ci 0,ci 0,ci 0,ci 0]),
 cm 4 11,
 cn (.sto 5 5 (.t 5) (.t 13))]
def c140_r4:CL:=[cq 14 (.fld 0 (.t 5)),
 cq 15 (.ldo 5 1 false (.t 14)),
 cq 16 (.bin .neq (.t 15) (ci 4))]
def c140_r5:CL:=[cm 17 0,
 cm 18 3,
 cm 19 4,
 cq 20 (.callb (.t 17) [.t 18,.t 19] 0),
 cq 21 (.not (.t 20))]
def c140_r6:CL:=[cm 22 3,
 cq 23 (.bin .add (.t 22) (ci 1)),
 cm 3 23]
def c140_r7:CL:=[cq 24 (.bin .add (.t 9) (ci 1)),
 cm 9 24]
def c140_b0:AC:=cs c140_r2 (.seq (.cond (.t 10) (.skip) (.exit 0)) (.seq (.block 1 (cs c140_r3 (.seq (cs c140_r4 (.cond (.t 16) (.exit 1) (.skip))) (.seq (cs c140_r5 (.cond (.t 21) (.ret) (.skip))) (co c140_r6))))) (co c140_r7)))
def c140:AFn:=⟨25,[],cs c140_r0 (cs c140_r1 (.block 0 (.loop c140_b0 [0,3,7,8,9] [0])))⟩
def c141_r0:CL:=[cq 1 (.boxi (.t 0)),
 cq 2 (.mov (ci 0)),
 cq 3 (.mov (ci 0))]
def c141_r1:CL:=[cq 6 (.fld 0 (.t 1)),
 cq 7 (.ldi 1 false (.t 6)),
 cq 8 (.len (.t 7)),
 cq 9 (.mov (ci 0))]
def c141_r2:CL:=[cq 10 (.bin .lss (.t 9) (.t 8))]
def c141_r3:CL:=[cq 11 (.ixi 5 (.t 7) (.t 9)),
 cq 12 (.ldi 5 true (.t 11)),
 cq 5 (.alo 5 [ci 0,ci 0,ci 0,ci 0,ci 0]),
 cn (.sto 5 5 (.t 5) (.t 12))]
def c141_r4:CL:=[cm 13 2,
 cq 14 (.ldo 5 5 true (.t 5)),
 cq 15 (.call 132 [.t 14] []),
 cq 16 (.bin .add (.t 13) (.t 15)),
 cm 2 16]
def c141_r5:CL:=[cm 17 3,
 cq 18 (.ldo 5 5 true (.t 5)),
 cq 19 (.call 132 [.t 18] []),
 cq 20 (.yy (.mx false (ci 0) (.t 19))),
 cq 21 (.bin .add (.t 17) (.t 20)),
 cm 3 21]
def c141_r6:CL:=[cq 22 (.bin .add (.t 9) (ci 1)),
 cm 9 22]
def c141_b0:AC:=cs c141_r2 (.seq (.cond (.t 10) (.skip) (.exit 0)) (.seq (.block 1 (cs c141_r3 (cs c141_r4 (co c141_r5)))) (co c141_r6)))
def c141_r7:CL:=[cm 23 2,
 cm 24 3,
 cm 2 23,
 cm 3 24]
def c141:AFn:=⟨25,[.tmp 2,.tmp 3],cs c141_r0 (.seq (cs c141_r1 (.block 0 (.loop c141_b0 [2,3,7,8,9] []))) (cs c141_r7 (.ret)))⟩
def c142_r0:CL:=[cq 2 (.mov (.nil 1)),
 cq 3 (.mov (.bool false))]
def c142_r1:CL:=[cq 7 (.bso 7 3 1 [ci 0]),
 cm 4 7]
def c142_r2:CL:=[cq 5 (.mov (ci 0))]
def c142_r3:CL:=[cm 8 5,
 cm 9 0,
 cq 10 (.len (.t 9)),
 cq 11 (.bin .lss (.t 8) (.t 10))]
def c142_r5:CL:=[cm 14 4,
 cm 15 5,
 cq 16 (.ixo 7 1 (.t 14) (.t 15)),
 cq 17 (.ldo 7 1 false (.t 16)),
 cm 6 17]
def c142_r6:CL:=[cm 18 0,
 cm 19 5,
 cq 20 (.ixi 5 (.t 18) (.t 19)),
 cq 21 (.ldi 5 true (.t 20)),
 cm 22 6,
 cq 23 (.call 173 [.t 21,.t 22] []),
 cq 24 (.not (.t 23))]
def c142_r7:CL:=[cq 2 (.mov (.nil 1)),
 cq 3 (.mov (.bool false))]
def c142_r8:CL:=[cm 25 0,
 cm 26 5,
 cq 27 (.ixi 5 (.t 25) (.t 26)),
 cq 28 (.fld 0 (.t 27)),
 cq 29 (.ldi 1 false (.t 28))]
def c142_r9:CL:=[cq 31 (.bin .eql (.t 29) (ci 1)),
 cm 30 31]
def c142_r10:CL:=[cm 32 6,
 cq 33 (.bin .add (.t 32) (ci 1)),
 cm 6 33]
def c142_r11:CL:=[cq 35 (.bin .eql (.t 29) (ci 2)),
 cm 34 35]
def c142_r12:CL:=[cm 36 6,
 cq 37 (.bin .sub (.t 36) (ci 1)),
 cm 6 37]
def c142_r13:CL:=[cm 38 4,
 cm 39 6,
 cq 40 (.bsl 1 [.t 39]),
 cq 41 (.app 7 3 1 8 (.t 38) (.t 40)),
 cm 4 41]
def c142_r4:CL:=[cm 12 5,
 cq 13 (.bin .add (.t 12) (ci 1)),
 cm 5 13]
def c142_b0:AC:=.seq (cs c142_r3 (.cond (.t 11) (.skip) (.exit 0))) (.seq (.block 1 (cs c142_r5 (.seq (cs c142_r6 (.cond (.t 24) (cs c142_r7 (.ret)) (.skip))) (.seq (cs c142_r8 (.block 2 (cs c142_r9 (.cond (.t 30) (co c142_r10) (cs c142_r11 (.cond (.t 34) (co c142_r12) (.skip))))))) (co c142_r13))))) (co c142_r4))
def c142_r14:CL:=[cm 42 4,
 cm 2 42,
 cq 3 (.mov (.bool true))]
def c142:AFn:=⟨43,[.tmp 2,.tmp 3],cs c142_r0 (cs c142_r1 (.seq (cs c142_r2 (.block 0 (.loop c142_b0 [0,4,5] [7]))) (cs c142_r14 (.ret))))⟩
def c143_r0:CL:=[cq 2 (.boxi (.t 0)),
 cq 4 (.mov (.bool false))]
def c143_r1:CL:=[cq 5 (.fld 0 (.t 2)),
 cq 6 (.ldi 1 false (.t 5)),
 cm 7 1,
 cq 8 (.len (.t 7)),
 cq 9 (.bin .sub (.t 8) (ci 1)),
 cq 10 (.call 58 [.t 6,ci 0,.t 9] []),
 cm 11 10,
 cu 12 11 (.fld 2 (.t 2)),
 cu 13 11 (.ldi 1 false (.t 12)),
 cu 14 11 (.call 58 [.t 13,ci 0,ci 1] []),
 cq 15 (.pick (.t 11) (.t 14) (.bool false)),
 cm 16 15,
 cu 17 16 (.fld 1 (.t 2)),
 cu 18 16 (.ldi 1 false (.t 17)),
 cw 19 16 1,
 cu 20 16 (.fld 0 (.t 2)),
 cu 21 16 (.ldi 1 false (.t 20)),
 cu 22 16 (.ixi 1 (.t 19) (.t 21)),
 cu 23 16 (.ldi 1 false (.t 22)),
 cu 24 16 (.bin .sub (.t 23) (ci 1)),
 cu 25 16 (.call 58 [.t 18,ci 0,.t 24] []),
 cq 26 (.pick (.t 16) (.t 25) (.bool false)),
 cm 27 26,
 cu 28 27 (.fld 3 (.t 2)),
 cu 29 27 (.ldi 1 false (.t 28)),
 cu 30 27 (.call 58 [.t 29,.int .i64 (-1),ci 99] []),
 cq 31 (.pick (.t 27) (.t 30) (.bool false)),
 cm 32 31,
 cu 33 32 (.fld 4 (.t 2)),
 cu 34 32 (.ldi 1 false (.t 33)),
 cu 35 32 (.call 58 [.t 34,.int .i64 (-1),ci 99] []),
 cq 36 (.pick (.t 32) (.t 35) (.bool false)),
 cm 4 36]
def c143:AFn:=⟨37,[.tmp 4],cs c143_r0 (.seq (.ops c143_r1 true) (.ret))⟩
def c144_r0:CL:=[cq 6 (.mov (.bool false))]
def c144_r1:CL:=[cm 7 0,
 cm 8 1,
 cm 9 2,
 cq 10 (.call 174 [.t 7,.t 8,.t 9] []),
 cm 6 10]
def c144:AFn:=⟨11,[.tmp 6],cs c144_r0 (cs c144_r1 (.ret))⟩
def c145_r0:CL:=[cq 6 (.mov (ci 0))]
def c145_r1:CL:=[cm 7 1,
 cq 8 (.bin .eql (.t 7) (ci 1))]
def c145_r2:CL:=[cm 9 2,
 cq 10 (.bin .sub (.t 9) (ci 1)),
 cm 11 0,
 cq 12 (.bin .sub (.t 10) (.t 11)),
 cm 6 12]
def c145_r3:CL:=[cm 13 0,
 cm 6 13]
def c145:AFn:=⟨14,[.tmp 6],cs c145_r0 (.seq (cs c145_r1 (.cond (.t 8) (cs c145_r2 (.ret)) (.skip))) (cs c145_r3 (.ret)))⟩
def c153_r0:CL:=[cq 2 (.boxi (.t 0)),
 cq 4 (.alo 4 [.nilp]),
 cq 5 (.alo 5 [ci 0])]
def c153_r1:CL:=[cq 8 (.ldi 6 true (.t 2)),
 cq 9 (.call 81 [.t 8] []),
 cm 6 9]
def c153_r2:CL:=[cm 10 6,
 cq 11 (.bin .neq (.t 10) (ci 0))]
def c153_r3:CL:=[cm 12 6,
 cn (.sto 4 1 (.t 4) (.nilp)),
 cn (.sto 5 1 (.t 5) (.t 12))]
def c153_r4:CL:=[cm 13 1,
 cq 14 (.not (.t 13))]
def c153_r5:CL:=[cn (.sto 4 1 (.t 4) (.nilp)),
 cn (.sto 5 1 (.t 5) (ci 1))]
def c153_r6:CL:=[cq 15 (.ldi 6 true (.t 2)),
 cq 16 (.call 179 [.t 15] []),
 cq 7 (.alo 7 [.nilp]),
 cn (.sto 7 1 (.t 7) (.t 16))]
def c153_r7:CL:=[cq 17 (.ldo 7 1 false (.t 7)),
 cq 18 (.yy (.mkf 154 [.t 17] []))]
def c153_r8:CL:=[cq 20 (.ldo 7 1 false (.t 7)),
 cn (.sto 4 1 (.t 4) (.t 20)),
 cn (.sto 5 1 (.t 5) (ci 0))]
def c153_b0a:AC:=.skip
def c153_b0:AC:=.block 1 (cs c153_r8 (.ret))
def c153_r9:CL:=[cn (.sto 4 1 (.t 4) (.nilp)),
 cn (.sto 5 1 (.t 5) (ci 3))]
def c153:AFn:=⟨21,[.cell 4 1 false,.cell 5 1 false],cs c153_r0 (.seq (cs c153_r1 (cs c153_r2 (.cond (.t 11) (cs c153_r3 (.ret)) (.skip)))) (.seq (cs c153_r4 (.cond (.t 14) (cs c153_r5 (.ret)) (.skip))) (cs c153_r6 (.seq (cs c153_r7 (.block 0 (.range (.t 18) [19] c153_b0a c153_b0 [4,5,7] [4,5,7]))) (cs c153_r9 (.ret))))))⟩
def c154_r0:CL:=[cq 2 (.boxi (.t 0)),
 cq 3 (.boxo 3 (.t 1))]
def c154_r1:CL:=[cq 6 (.ldi 1 false (.t 2)),
 cq 7 (.yy (.mkf 180 [.t 6] []))]
def c154_r2:CL:=[cq 4 (.alo 4 [ci 0,ci 0,ci 0,ci 0,ci 0]),
 cn (.sto 4 5 (.t 4) (.t 8))]
def c154_r3:CL:=[cm 5 9]
def c154_r4:CL:=[cm 10 5,
 cq 11 (.ldi 1 false (.t 2)),
 cq 12 (.nilc (.t 11)),
 cq 13 (.fld 0 (.t 12)),
 cq 14 (.fld 5 (.t 13)),
 cq 15 (.ldi 1 false (.t 14)),
 cq 16 (.bin .leq (.t 10) (.t 15)),
 cm 17 16,
 cu 18 17 (.ldo 3 1 false (.t 3)),
 cu 19 17 (.ldo 4 5 true (.t 4)),
 cu 20 17 (.callb (.t 18) [.t 19] 0),
 cu 21 17 (.not (.t 20)),
 cq 22 (.pick (.t 17) (.t 21) (.bool false))]
def c154_b0a:AC:=cs c154_r2 (co c154_r3)
def c154_b0:AC:=.block 1 (cs c154_r4 (.cond (.t 22) (.ret) (.skip)))
def c154:AFn:=⟨23,[],cs c154_r0 (cs c154_r1 (.block 0 (.range (.t 7) [8,9] c154_b0a c154_b0 [2,3] [0,3])))⟩
def c155_r0:CL:=[cq 5 (.boxi (.t 1)),
 cq 8 (.mov (ci 0))]
def c155_r1:CL:=[cm 9 2,
 cm 10 0,
 cq 11 (.nilc (.t 10)),
 cq 12 (.fld 0 (.t 11)),
 cq 13 (.fld 1 (.t 12)),
 cq 14 (.ldi 1 false (.t 13)),
 cm 15 3,
 cq 16 (.fld 3 (.t 5)),
 cq 17 (.ldi 1 false (.t 16)),
 cq 18 (.bin .mul (.t 15) (.t 17)),
 cq 19 (.bin .sub (.t 14) (.t 18)),
 cq 20 (.yy (.mx false (ci 0) (.t 19))),
 cq 21 (.bin .add (.t 9) (.t 20)),
 cm 8 21]
def c155:AFn:=⟨22,[.tmp 8],cs c155_r0 (.seq (.ops c155_r1 true) (.ret))⟩
def c160_r0:CL:=[cq 2 (.boxi (.t 0)),
 cq 4 (.alo 4 [.nil 5,.nil 5,ci 0,.nilm]),
 cq 5 (.alo 5 [ci 0])]
def c160_r1:CL:=[cq 8 (.ldi 3 true (.t 2)),
 cq 9 (.call 80 [.t 8] []),
 cm 6 9]
def c160_r2:CL:=[cm 10 6,
 cq 11 (.bin .neq (.t 10) (ci 0))]
def c160_r3:CL:=[cq 12 (.bld [.nil 5,.nil 5,ci 0,.nilm] []),
 cm 13 6,
 cn (.sto 4 4 (.t 4) (.t 12)),
 cn (.sto 5 1 (.t 5) (.t 13))]
def c160_r4:CL:=[cm 14 1,
 cq 15 (.ldi 3 true (.t 2)),
 cq 16 (.call 141 [.t 15] []),
 cq 17 (.ext (.t 16) 0),
 cq 18 (.ext (.t 16) 1),
 cq 19 (.calld (.t 14) [.t 17,.t 18] []),
 cq 20 (.not (.t 19))]
def c160_r5:CL:=[cq 21 (.bld [.nil 5,.nil 5,ci 0,.nilm] []),
 cn (.sto 4 4 (.t 4) (.t 21)),
 cn (.sto 5 1 (.t 5) (ci 1))]
def c160_r6:CL:=[cq 22 (.ldi 3 true (.t 2)),
 cq 23 (.call 184 [.t 22] []),
 cq 7 (.alo 7 [.nil 5,.nil 5,ci 0,.nilm]),
 cn (.sto 7 4 (.t 7) (.t 23))]
def c160_r7:CL:=[cq 24 (.ldo 7 4 true (.t 7)),
 cq 25 (.yy (.mkf 161 [.t 24] []))]
def c160_r8:CL:=[cq 27 (.ldo 7 4 true (.t 7)),
 cn (.sto 4 4 (.t 4) (.t 27)),
 cn (.sto 5 1 (.t 5) (ci 0))]
def c160_b0a:AC:=.skip
def c160_b0:AC:=.block 1 (cs c160_r8 (.ret))
def c160_r9:CL:=[cq 28 (.ldo 7 4 true (.t 7)),
 cn (.sto 4 4 (.t 4) (.t 28)),
 cn (.sto 5 1 (.t 5) (ci 3))]
def c160:AFn:=⟨29,[.cell 4 4 true,.cell 5 1 false],cs c160_r0 (.seq (cs c160_r1 (cs c160_r2 (.cond (.t 11) (cs c160_r3 (.ret)) (.skip)))) (.seq (cs c160_r4 (.cond (.t 20) (cs c160_r5 (.ret)) (.skip))) (cs c160_r6 (.seq (cs c160_r7 (.block 0 (.range (.t 25) [26] c160_b0a c160_b0 [4,5,7] [4,5,7]))) (cs c160_r9 (.ret))))))⟩
def c161_r0:CL:=[cq 2 (.boxi (.t 0)),
 cq 3 (.boxo 3 (.t 1))]
def c161_r1:CL:=[cq 5 (.ldi 4 true (.t 2)),
 cq 6 (.yy (.mkf 185 [.t 5] []))]
def c161_r2:CL:=[cq 4 (.alo 4 [.nil 1,.nil 2,.nilm]),
 cn (.sto 4 3 (.t 4) (.t 7))]
def c161_r3:CL:=[cq 8 (.ldo 4 3 true (.t 4)),
 cq 9 (.fld 0 (.t 2)),
 cq 10 (.fld 1 (.t 9)),
 cq 11 (.ldi 1 false (.t 10)),
 cq 12 (.call 186 [.t 8,.t 11] []),
 cq 13 (.fld 0 (.t 2)),
 cq 14 (.fld 2 (.t 13)),
 cq 15 (.ldi 1 false (.t 14)),
 cq 16 (.bin .leq (.t 12) (.t 15)),
 cm 17 16,
 cu 18 17 (.ldo 3 1 false (.t 3)),
 cu 19 17 (.ldo 4 3 true (.t 4)),
 cu 20 17 (.callb (.t 18) [.t 19] 0),
 cu 21 17 (.not (.t 20)),
 cq 22 (.pick (.t 17) (.t 21) (.bool false))]
def c161_b0a:AC:=.ops c161_r2 false
def c161_b0:AC:=.block 1 (.seq (.ops c161_r3 true) (.cond (.t 22) (.ret) (.skip)))
def c161:AFn:=⟨23,[],cs c161_r0 (cs c161_r1 (.block 0 (.range (.t 6) [7] c161_b0a c161_b0 [2,3] [0,3])))⟩
def c162_r0:CL:=[cq 5 (.mov (.bool false))]
def c162_r1:CL:=[cq 6 (.ldi 1 false (.t 2)),
 cm 7 1,
 cq 8 (.bin .sub (.t 7) (ci 1)),
 cq 9 (.call 130 [.t 6,ci 0,.t 8] []),
 cm 5 9]
def c162:AFn:=⟨10,[.tmp 5],cs c162_r0 (cs c162_r1 (.ret))⟩
def c163_r0:CL:=[cq 4 (.mov (ci 0))]
def c163_r1:CL:=[cm 6 0,
 cq 7 (.len (.t 6)),
 cq 8 (.mov (ci 0))]
def c163_r2:CL:=[cq 9 (.bin .lss (.t 8) (.t 7))]
def c163_r3:CL:=[cm 10 8,
 cm 5 10]
def c163_r4:CL:=[cm 11 1,
 cm 12 0,
 cm 13 5,
 cq 14 (.ixi 5 (.t 12) (.t 13)),
 cq 15 (.ldi 5 true (.t 14)),
 cq 16 (.calld (.t 11) [.t 15] [])]
def c163_r5:CL:=[cm 17 5,
 cm 4 17]
def c163_r6:CL:=[cq 18 (.bin .add (.t 8) (ci 1)),
 cm 8 18]
def c163_b0:AC:=cs c163_r2 (.seq (.cond (.t 9) (.skip) (.exit 0)) (.seq (.block 1 (cs c163_r3 (cs c163_r4 (.cond (.t 16) (cs c163_r5 (.ret)) (.skip))))) (co c163_r6)))
def c163_r7:CL:=[cq 4 (.mov (.int .i64 (-1)))]
def c163:AFn:=⟨19,[.tmp 4],cs c163_r0 (.seq (cs c163_r1 (.block 0 (.loop c163_b0 [0,1,7,8] []))) (cs c163_r7 (.ret)))⟩
def c164_r0:CL:=[cq 1 (.boxi (.t 0)),
 cq 2 (.mov (.bool false))]
def c164_r1:CL:=[cq 3 (.fld 2 (.t 1)),
 cq 4 (.ldi 1 false (.t 3)),
 cq 5 (.bin .eql (.t 4) (ci 2)),
 cm 2 5]
def c164:AFn:=⟨6,[.tmp 2],cs c164_r0 (cs c164_r1 (.ret))⟩
def c165_r0:CL:=[cq 1 (.boxi (.t 0)),
 cq 2 (.mov (ci 0)),
 cq 3 (.mov (ci 0))]
def c165_r1:CL:=[cq 8 (.ldi 3 true (.t 1)),
 cq 9 (.call 160 [.t 8,.fn 187] []),
 cm 7 9,
 cq 10 (.ext (.t 7) 0),
 cq 11 (.ext (.t 7) 1),
 cq 4 (.alo 4 [.nil 5,.nil 5,ci 0,.nilm]),
 cn (.sto 4 4 (.t 4) (.t 10)),
 cm 5 11]
def c165_r2:CL:=[cm 12 5,
 cq 13 (.bin .neq (.t 12) (ci 0))]
def c165_r3:CL:=[cm 14 5,
 cq 2 (.mov (ci 0)),
 cm 3 14]
def c165_r4:CL:=[cq 6 (.alo 6 [ci 0]),
 cn (.sto 6 1 (.t 6) (ci 0))]
def c165_r5:CL:=[cq 15 (.ldo 4 4 true (.t 4)),
 cq 16 (.yy (.mkf 161 [.t 15] []))]
def c165_r6:CL:=[cq 18 (.ldo 6 1 false (.t 6)),
 cq 19 (.bin .add (.t 18) (ci 1)),
 cn (.sto 6 1 (.t 6) (.t 19))]
def c165_b0a:AC:=.skip
def c165_b0:AC:=.block 1 (co c165_r6)
def c165_r7:CL:=[cq 20 (.ldo 6 1 false (.t 6)),
 cm 2 20,
 cq 3 (.mov (ci 0))]
def c165:AFn:=⟨21,[.tmp 2,.tmp 3],cs c165_r0 (cs c165_r1 (.seq (cs c165_r2 (.cond (.t 13) (cs c165_r3 (.ret)) (.skip))) (cs c165_r4 (.seq (cs c165_r5 (.block 0 (.range (.t 16) [17] c165_b0a c165_b0 [6] [6]))) (cs c165_r7 (.ret))))))⟩
def c167_r0:CL:=[cq 1 (.boxi (.t 0)),
 cq 2 (.mov (.nil 1))]
def c167_r1:CL:=[cq 10 (.ldi 3 true (.t 1)),
 cq 11 (.call 83 [.t 10] []),
 cm 9 11,
 cq 12 (.ext (.t 9) 0),
 cq 13 (.ext (.t 9) 1),
 cm 3 12,
 cm 4 13]
def c167_r2:CL:=[cq 5 (.nilo 5 3 1)]
def c167_r3:CL:=[cm 14 3,
 cq 15 (.mov (ci 0))]
def c167_r4:CL:=[cq 16 (.bin .lss (.t 15) (.t 14))]
def c167_r5:CL:=[cm 17 15,
 cm 6 17]
def c167_r6:CL:=[cq 19 (.ldi 3 true (.t 1)),
 cm 20 6,
 cq 21 (.call 188 [.t 19,.t 20] []),
 cm 18 21,
 cq 22 (.ext (.t 18) 0),
 cq 23 (.ext (.t 18) 1),
 cm 7 22,
 cm 8 23]
def c167_r7:CL:=[cm 24 5,
 cm 25 7,
 cq 26 (.app 5 3 1 8 (.t 24) (.t 25)),
 cm 5 26]
def c167_r8:CL:=[cq 27 (.bin .add (.t 15) (ci 1)),
 cm 15 27]
def c167_b0:AC:=cs c167_r4 (.seq (.cond (.t 16) (.skip) (.exit 0)) (.seq (.block 1 (cs c167_r5 (cs c167_r6 (co c167_r7)))) (co c167_r8)))
def c167_r9:CL:=[cm 28 5,
 cm 2 28]
def c167:AFn:=⟨29,[.tmp 2],cs c167_r0 (cs c167_r1 (cs c167_r2 (.seq (cs c167_r3 (.block 0 (.loop c167_b0 [1,5,14,15] [5]))) (cs c167_r9 (.ret)))))⟩
def c168_r0:CL:=[cq 1 (.boxi (.t 0)),
 cq 2 (.alo 2 [ci 0]),
 cq 3 (.mov (ci 0))]
def c168_r1:CL:=[cq 6 (.ldi 6 true (.t 1)),
 cq 7 (.call 153 [.t 6,.bool true] []),
 cm 5 7,
 cq 8 (.ext (.t 5) 0),
 cq 9 (.ext (.t 5) 1),
 cm 4 8,
 cm 3 9]
def c168_r2:CL:=[cm 10 3,
 cq 11 (.bin .neq (.t 10) (ci 0))]
def c168_r3:CL:=[cm 12 3,
 cn (.sto 2 1 (.t 2) (ci 0)),
 cm 3 12]
def c168_r4:CL:=[cm 13 4,
 cq 14 (.yy (.mkf 154 [.t 13] []))]
def c168_r5:CL:=[cq 16 (.ldo 2 1 false (.t 2)),
 cq 17 (.bin .add (.t 16) (ci 1)),
 cn (.sto 2 1 (.t 2) (.t 17))]
def c168_b0a:AC:=.skip
def c168_b0:AC:=.block 1 (co c168_r5)
def c168_r6:CL:=[cq 18 (.ldo 2 1 false (.t 2)),
 cn (.sto 2 1 (.t 2) (.t 18)),
 cq 3 (.mov (ci 0))]
def c168:AFn:=⟨19,[.cell 2 1 false,.tmp 3],cs c168_r0 (cs c168_r1 (.seq (cs c168_r2 (.cond (.t 11) (cs c168_r3 (.ret)) (.skip))) (.seq (cs c168_r4 (.block 0 (.range (.t 14) [15] c168_b0a c168_b0 [2] [2]))) (cs c168_r6 (.ret)))))⟩
def c170_r0:CL:=[cq 4 (.mov (ci 0))]
def c170_r1:CL:=[cm 6 0,
 cq 7 (.len (.t 6)),
 cq 8 (.mov (ci 0))]
def c170_r2:CL:=[cq 9 (.bin .lss (.t 8) (.t 7))]
def c170_r3:CL:=[cm 10 8,
 cm 5 10]
def c170_r4:CL:=[cm 11 1,
 cm 12 0,
 cm 13 5,
 cq 14 (.ixi 1 (.t 12) (.t 13)),
 cq 15 (.ldi 1 false (.t 14)),
 cq 16 (.calld (.t 11) [.t 15] [])]
def c170_r5:CL:=[cm 17 5,
 cm 4 17]
def c170_r6:CL:=[cq 18 (.bin .add (.t 8) (ci 1)),
 cm 8 18]
def c170_b0:AC:=cs c170_r2 (.seq (.cond (.t 9) (.skip) (.exit 0)) (.seq (.block 1 (cs c170_r3 (cs c170_r4 (.cond (.t 16) (cs c170_r5 (.ret)) (.skip))))) (co c170_r6)))
def c170_r7:CL:=[cq 4 (.mov (.int .i64 (-1)))]
def c170:AFn:=⟨19,[.tmp 4],cs c170_r0 (.seq (cs c170_r1 (.block 0 (.loop c170_b0 [0,1,7,8] []))) (cs c170_r7 (.ret)))⟩
def c171_r0:CL:=[cq 4 (.mov (ci 0))]
def c171_r1:CL:=[cm 6 0,
 cq 7 (.len (.t 6)),
 cq 8 (.mov (ci 0))]
def c171_r2:CL:=[cq 9 (.bin .lss (.t 8) (.t 7))]
def c171_r3:CL:=[cm 10 8,
 cm 5 10]
def c171_r4:CL:=[cm 11 1,
 cm 12 0,
 cm 13 5,
 cq 14 (.ixi 3 (.t 12) (.t 13)),
 cq 15 (.ldi 3 true (.t 14)),
 cq 16 (.calld (.t 11) [.t 15] [])]
def c171_r5:CL:=[cm 17 5,
 cm 4 17]
def c171_r6:CL:=[cq 18 (.bin .add (.t 8) (ci 1)),
 cm 8 18]
def c171_b0:AC:=cs c171_r2 (.seq (.cond (.t 9) (.skip) (.exit 0)) (.seq (.block 1 (cs c171_r3 (cs c171_r4 (.cond (.t 16) (cs c171_r5 (.ret)) (.skip))))) (co c171_r6)))
def c171_r7:CL:=[cq 4 (.mov (.int .i64 (-1)))]
def c171:AFn:=⟨19,[.tmp 4],cs c171_r0 (.seq (cs c171_r1 (.block 0 (.loop c171_b0 [0,1,7,8] []))) (cs c171_r7 (.ret)))⟩
def c172_r0:CL:=[cq 4 (.mov (ci 0))]
def c172_r1:CL:=[cm 6 0,
 cq 7 (.len (.t 6)),
 cq 8 (.mov (ci 0))]
def c172_r2:CL:=[cq 9 (.bin .lss (.t 8) (.t 7))]
def c172_r3:CL:=[cm 10 8,
 cm 5 10]
def c172_r4:CL:=[cm 11 1,
 cm 12 0,
 cm 13 5,
 cq 14 (.ixi 4 (.t 12) (.t 13)),
 cq 15 (.ldi 4 true (.t 14)),
 cq 16 (.calld (.t 11) [.t 15] [])]
def c172_r5:CL:=[cm 17 5,
 cm 4 17]
def c172_r6:CL:=[cq 18 (.bin .add (.t 8) (ci 1)),
 cm 8 18]
def c172_b0:AC:=cs c172_r2 (.seq (.cond (.t 9) (.skip) (.exit 0)) (.seq (.block 1 (cs c172_r3 (cs c172_r4 (.cond (.t 16) (cs c172_r5 (.ret)) (.skip))))) (co c172_r6)))
def c172_r7:CL:=[cq 4 (.mov (.int .i64 (-1)))]
def c172:AFn:=⟨19,[.tmp 4],cs c172_r0 (.seq (cs c172_r1 (.block 0 (.loop c172_b0 [0,1,7,8] []))) (cs c172_r7 (.ret)))⟩
def c173_r0:CL:=[cq 2 (.boxi (.t 0)),
 cq 4 (.mov (.bool false))]
def c173_r1:CL:=[cq 5 (.fld 0 (.t 2)),
 cq 6 (.ldi 1 false (.t 5))]
def c173_r2:CL:=[cq 8 (.bin .eql (.t 6) (ci 1)),
 cm 7 8]
def c173_r3:CL:=[cq 9 (.fld 2 (.t 2)),
 cq 10 (.ldi 1 false (.t 9)),
 cq 11 (.call 58 [.t 10,ci 0,ci 2] []),
 cm 12 11,
 cu 13 12 (.fld 1 (.t 2)),
 cu 14 12 (.ldi 1 false (.t 13)),
 cw 15 12 1,
 cu 16 12 (.call 58 [.t 14,ci 0,.t 15] []),
 cq 17 (.pick (.t 12) (.t 16) (.bool false)),
 cm 18 17,
 cu 19 18 (.fld 3 (.t 2)),
 cu 20 18 (.ldi 1 false (.t 19)),
 cu 21 18 (.call 58 [.t 20,ci 0,ci 99] []),
 cq 22 (.pick (.t 18) (.t 21) (.bool false)),
 cm 23 22,
 cu 24 23 (.fld 4 (.t 2)),
 cu 25 23 (.ldi 1 false (.t 24)),
 cu 26 23 (.call 58 [.t 25,ci 0,ci 99] []),
 cq 27 (.pick (.t 23) (.t 26) (.bool false)),
 cm 4 27]
def c173_r4:CL:=[cq 29 (.bin .eql (.t 6) (ci 2)),
 cm 28 29]
def c173_r5:CL:=[cq 30 (.fld 2 (.t 2)),
 cq 31 (.ldi 1 false (.t 30)),
 cq 32 (.call 58 [.t 31,ci 0,ci 2] []),
 cm 33 32,
 cu 34 33 (.fld 1 (.t 2)),
 cu 35 33 (.ldi 1 false (.t 34)),
 cw 36 33 1,
 cu 37 33 (.bin .sub (.t 36) (ci 1)),
 cu 38 33 (.call 58 [.t 35,ci 0,.t 37] []),
 cq 39 (.pick (.t 33) (.t 38) (.bool false)),
 cm 40 39,
 cu 41 40 (.fld 3 (.t 2)),
 cu 42 40 (.ldi 1 false (.t 41)),
 cu 43 40 (.bin .eql (.t 42) (ci 0)),
 cq 44 (.pick (.t 40) (.t 43) (.bool false)),
 cm 45 44,
 cu 46 45 (.fld 4 (.t 2)),
 cu 47 45 (.ldi 1 false (.t 46)),
 cu 48 45 (.bin .eql (.t 47) (ci 0)),
 cq 49 (.pick (.t 45) (.t 48) (.bool false)),
 cm 4 49]
def c173_r6:CL:=[cq 51 (.bin .eql (.t 6) (ci 3)),
 cm 50 51]
def c173_r7:CL:=[cq 52 (.bin .eql (.t 6) (ci 4)),
 cm 50 52]
def c173_r8:CL:=[cq 53 (.ldi 5 true (.t 2)),
 cq 54 (.fld 0 (.t 2)),
 cq 55 (.ldi 1 false (.t 54)),
 cq 56 (.bld [ci 0,ci 0,ci 0,ci 0,ci 0] [(0,1,.t 55)]),
 cq 57 (.yy (.eqs false 5 (.t 53) (.t 56))),
 cm 4 57]
def c173_r9:CL:=[cq 4 (.mov (.bool false))]
def c173:AFn:=⟨58,[.tmp 4],cs c173_r0 (.seq (cs c173_r1 (.block 0 (cs c173_r2 (.cond (.t 7) (cs c173_r3 (.ret)) (cs c173_r4 (.cond (.t 28) (cs c173_r5 (.ret)) (.seq (cs c173_r6 (.cond (.t 50) (.skip) (co c173_r7))) (.cond (.t 50) (cs c173_r8 (.ret)) (.skip))))))))) (cs c173_r9 (.ret)))⟩
def c174_r0:CL:=[cq 6 (.mov (.bool false))]
def c174_r1:CL:=[cm 7 0,
 cm 8 1,
 cq 9 (.bin .geq (.t 7) (.t 8)),
 cm 10 9,
 cw 11 10 0,
 cw 12 10 2,
 cu 13 10 (.bin .leq (.t 11) (.t 12)),
 cq 14 (.pick (.t 10) (.t 13) (.bool false)),
 cm 6 14]
def c174:AFn:=⟨15,[.tmp 6],cs c174_r0 (cs c174_r1 (.ret))⟩
def c179_r0:CL:=[cq 1 (.boxi (.t 0)),
 cq 2 (.mov (.nilp))]
def c179_r1:CL:=[cq 6 (.ldi 6 true (.t 1)),
 cq 7 (.bld [.nil 3,ci 0,ci 0,ci 0,.nil 4,ci 0,ci 0] [(0,6,.t 6),(6,1,ci 1)]),
 cq 8 (.boxo 8 (.t 7)),
 cm 3 8]
def c179_r2:CL:=[cq 9 (.fld 0 (.t 1)),
 cq 10 (.ldi 1 false (.t 9)),
 cq 11 (.len (.t 10)),
 cq 12 (.mov (ci 0))]
def c179_r3:CL:=[cq 13 (.bin .lss (.t 12) (.t 11))]
def c179_r4:CL:=[cq 14 (.ixi 3 (.t 10) (.t 12)),
 cq 15 (.ldi 3 true (.t 14)),
 cq 5 (.alo 5 [ci 0,ci 0,ci 0]),
 cn (.sto 5 3 (.t 5) (.t 15))]
def c179_r5:CL:=[cm 16 3,
 cq 17 (.nilc (.t 16)),
 cq 18 (.fld 6 (.t 17)),
 cq 19 (.ldo 8 1 false (.t 18)),
 cq 20 (.fld 0 (.t 5)),
 cq 21 (.ldo 5 1 false (.t 20)),
 cq 22 (.bin .mul (.t 19) (.t 21)),
 cq 23 (.nilc (.t 16)),
 cq 24 (.fld 6 (.t 23)),
 cn (.sto 8 1 (.t 24) (.t 22))]
def c179_r6:CL:=[cq 25 (.bin .add (.t 12) (ci 1)),
 cm 12 25]
def c179_b0:AC:=cs c179_r3 (.seq (.cond (.t 13) (.skip) (.exit 0)) (.seq (.block 1 (cs c179_r4 (.ops c179_r5 true))) (co c179_r6)))
def c179_r7:CL:=[cm 26 3,
 cm 2 26]
def c179:AFn:=⟨27,[.tmp 2],cs c179_r0 (cs c179_r1 (.seq (cs c179_r2 (.block 0 (.loop c179_b0 [3,10,11,12] [8]))) (cs c179_r7 (.ret))))⟩
def c180_r0:CL:=[cm 4 0,
 cq 5 (.bld [ci 0,ci 0,ci 0,ci 0,ci 0] [(4,1,ci 1)]),
 cm 6 1,
 cq 7 (.callx 200 [.t 4,.t 5,ci 0,.t 6] 0)]
def c180:AFn:=⟨8,[],.ops c180_r0 false⟩
def c184_r0:CL:=[cq 1 (.boxi (.t 0)),
 cq 2 (.alo 2 [.nil 5,.nil 5,ci 0,.nilm])]
def c184_r1:CL:=[cq 6 (.ldi 3 true (.t 1)),
 cq 7 (.yy (.mkm 7 none)),
 cq 8 (.bld [.nil 5,.nil 5,ci 0,.nilm] [(0,3,.t 6),(3,1,.t 7)]),
 cq 3 (.alo 3 [.nil 5,.nil 5,ci 0,.nilm]),
 cn (.sto 3 4 (.t 3) (.t 8))]
def c184_r2:CL:=[cq 9 (.fld 0 (.t 1)),
 cq 10 (.ldi 1 false (.t 9)),
 cq 11 (.len (.t 10)),
 cq 12 (.mov (ci 0))]
def c184_r3:CL:=[cq 13 (.bin .lss (.t 12) (.t 11))]
def c184_r4:CL:=[cm 14 12,
 cq 15 (.ixi 5 (.t 10) (.t 12)),
 cq 16 (.ldi 5 true (.t 15)),
 cq 5 (.alo 5 [ci 0,ci 0,ci 0,ci 0,ci 0]),
 cm 4 14,
 cn (.sto 5 5 (.t 5) (.t 16))]
def c184_r5:CL:=[cq 17 (.fld 2 (.t 5)),
 cq 18 (.ldo 5 1 false (.t 17)),
 cq 19 (.bin .eql (.t 18) (ci 2))]
def c184_r6:CL:=[cq 20 (.fld 3 (.t 3)),
 cq 21 (.ldo 3 1 false (.t 20)),
 cm 22 4,
 cq 23 (.fld 3 (.t 3)),
 cq 24 (.ldo 3 1 false (.t 23)),
 cq 25 (.yy (.lenmo 7 (.t 24))),
 cn (.yy (.mupd 7 (some .i64) (.t 21) (.t 22) (.t 25)))]
def c184_r7:CL:=[cq 26 (.bin .add (.t 12) (ci 1)),
 cm 12 26]
def c184_b0:AC:=cs c184_r3 (.seq (.cond (.t 13) (.skip) (.exit 0)) (.seq (.block 1 (cs c184_r4 (cs c184_r5 (.cond (.t 19) (co c184_r6) (.skip))))) (co c184_r7)))
def c184_r8:CL:=[cq 27 (.ldo 3 4 true (.t 3)),
 cn (.sto 2 4 (.t 2) (.t 27))]
def c184:AFn:=⟨28,[.cell 2 4 true],cs c184_r0 (cs c184_r1 (.seq (cs c184_r2 (.block 0 (.loop c184_b0 [2,3,10,11,12] [2,3,7]))) (cs c184_r8 (.ret))))⟩
def c185_r0:CL:=[cq 2 (.boxi (.t 0))]
def c185_r1:CL:=[cq 5 (.fld 3 (.t 2)),
 cq 6 (.ldi 1 false (.t 5)),
 cq 7 (.yy (.lenm (.t 6))),
 cq 8 (.bin .shl (ci 1) (.t 7)),
 cq 9 (.mov (ci 0))]
def c185_r2:CL:=[cq 10 (.bin .lss (.t 9) (.t 8))]
def c185_r3:CL:=[cm 11 9,
 cq 4 (.alo 4 [ci 0]),
 cn (.sto 4 1 (.t 4) (.t 11))]
def c185_r4:CL:=[cm 12 1,
 cq 13 (.fld 0 (.t 2)),
 cq 14 (.fld 0 (.t 13)),
 cq 15 (.ldi 1 false (.t 14)),
 cq 16 (.yy (.mkf 202 [] [.t 4,.t 2])),
 cq 17 (.call 201 [.t 15,.t 16] []),
 cq 18 (.callb (.t 12) [.t 17] 0),
 cq 19 (.not (.t 18))]
def c185_r5:CL:=[cq 20 (.bin .add (.t 9) (ci 1)),
 cm 9 20]
def c185_b0:AC:=cs c185_r2 (.seq (.cond (.t 10) (.skip) (.exit 0)) (.seq (.block 1 (cs c185_r3 (.frz 4 4 [1,2,8,9] [0] (cs c185_r4 (.cond (.t 19) (.ret) (.skip)))))) (co c185_r5)))
def c185:AFn:=⟨21,[],cs c185_r0 (cs c185_r1 (.block 0 (.loop c185_b0 [1,2,8,9] [0])))⟩
def c186_r0:CL:=[cq 2 (.boxi (.t 0)),
 cq 4 (.mov (ci 0))]
def c186_r1:CL:=[cq 5 (.mov (ci 0))]
def c186_r2:CL:=[cm 8 1,
 cq 9 (.len (.t 8)),
 cq 10 (.mov (ci 0))]
def c186_r3:CL:=[cq 11 (.bin .lss (.t 10) (.t 9))]
def c186_r4:CL:=[cq 12 (.ixi 5 (.t 8) (.t 10)),
 cq 13 (.ldi 5 true (.t 12)),
 cq 7 (.alo 7 [ci 0,ci 0,ci 0,ci 0,ci 0]),
 cn (.sto 7 5 (.t 7) (.t 13))]
def c186_r5:CL:=[cq 14 (.ldi 3 true (.t 2)),
 cq 15 (.ldo 7 5 true (.t 7)),
 cq 16 (.call 203 [.t 14,.t 15] []),
 cq 17 (.not (.t 16))]
def c186_r6:CL:=[cm 18 5,
 cq 19 (.bin .add (.t 18) (ci 1)),
 cm 5 19]
def c186_r7:CL:=[cq 20 (.bin .add (.t 10) (ci 1)),
 cm 10 20]
def c186_b0:AC:=cs c186_r3 (.seq (.cond (.t 11) (.skip) (.exit 0)) (.seq (.block 1 (cs c186_r4 (cs c186_r5 (.cond (.t 17) (co c186_r6) (.skip))))) (co c186_r7)))
def c186_r8:CL:=[cm 21 5,
 cm 4 21]
def c186:AFn:=⟨22,[.tmp 4],cs c186_r0 (cs c186_r1 (.seq (cs c186_r2 (.block 0 (.loop c186_b0 [2,5,8,9,10] []))) (cs c186_r8 (.ret))))⟩
def c187_r0:CL:=[cq 4 (.mov (.bool false))]
def c187_r1:CL:=[cq 4 (.mov (.bool true))]
def c187:AFn:=⟨5,[.tmp 4],cs c187_r0 (cs c187_r1 (.ret))⟩
def c188_r0:CL:=[cq 2 (.boxi (.t 0)),
 cq 3 (.boxi (.t 1)),
 cq 4 (.mov (.nil 1)),
 cq 5 (.mov (ci 0))]
def c188_r1:CL:=[cq 6 (.ldi 3 true (.t 2)),
 cq 7 (.ldi 1 false (.t 3)),
 cq 8 (.call 204 [.t 7] []),
 cq 9 (.yy (.mkf 205 [] [.t 3])),
 cq 10 (.call 116 [.t 6,.t 8,.t 9] []),
 cq 11 (.ext (.t 10) 0),
 cq 12 (.ext (.t 10) 1),
 cm 4 11,
 cm 5 12]
def c188:AFn:=⟨13,[.tmp 4,.tmp 5],cs c188_r0 (.seq (.ops c188_r1 true) (.ret))⟩
def c200_r0:CL:=[cq 5 (.boxo 5 (.t 1)),
 cq 8 (.mov (.bool false))]
def c200_r1:CL:=[cm 14 2,
 cm 15 0,
 cq 16 (.nilc (.t 15)),
 cq 17 (.fld 0 (.t 16)),
 cq 18 (.fld 0 (.t 17)),
 cq 19 (.ldi 1 false (.t 18)),
 cq 20 (.len (.t 19)),
 cq 21 (.bin .lss (.t 14) (.t 20))]
def c200_r2:CL:=[cm 22 0,
 cq 23 (.nilc (.t 22)),
 cq 24 (.fld 0 (.t 23)),
 cq 25 (.fld 0 (.t 24)),
 cq 26 (.ldi 1 false (.t 25)),
 cm 27 2,
 cq 28 (.ixi 3 (.t 26) (.t 27)),
 cq 29 (.fld 1 (.t 28)),
 cq 30 (.fld 0 (.t 29)),
 cq 31 (.ldi 1 false (.t 30)),
 cm 9 31]
def c200_r3:CL:=[cm 32 9,
 cm 33 0,
 cq 34 (.nilc (.t 33)),
 cq 35 (.fld 0 (.t 34)),
 cq 36 (.fld 0 (.t 35)),
 cq 37 (.ldi 1 false (.t 36)),
 cm 38 2,
 cq 39 (.ixi 3 (.t 37) (.t 38)),
 cq 40 (.fld 1 (.t 39)),
 cq 41 (.fld 1 (.t 40)),
 cq 42 (.ldi 1 false (.t 41)),
 cq 43 (.bin .leq (.t 32) (.t 42))]
def c200_r5:CL:=[cq 46 (.ldo 5 5 true (.t 5)),
 cq 10 (.alo 10 [ci 0,ci 0,ci 0,ci 0,ci 0]),
 cn (.sto 10 5 (.t 10) (.t 46))]
def c200_r6:CL:=[cm 47 2,
 cm 48 9,
 cq 49 (.fld 0 (.t 10)),
 cq 50 (.yy (.ixa 3 1 (.t 49) (.t 47))),
 cn (.sto 10 1 (.t 50) (.t 48))]
def c200_r7:CL:=[cq 51 (.fld 4 (.t 10)),
 cq 52 (.ldo 10 1 false (.t 51)),
 cm 53 9,
 cq 54 (.bin .mul (.t 52) (.t 53)),
 cq 55 (.fld 4 (.t 10)),
 cn (.sto 10 1 (.t 55) (.t 54))]
def c200_r8:CL:=[cm 56 0,
 cq 57 (.ldo 10 5 true (.t 10)),
 cm 58 2,
 cq 59 (.bin .add (.t 58) (ci 1)),
 cm 60 3,
 cq 61 (.callx 200 [.t 56,.t 57,.t 59,.t 60] 0),
 cq 62 (.not (.t 61))]
def c200_r9:CL:=[cq 8 (.mov (.bool false))]
def c200_r4:CL:=[cm 44 9,
 cq 45 (.bin .add (.t 44) (ci 1)),
 cm 9 45]
def c200_b0:AC:=.seq (cs c200_r3 (.cond (.t 43) (.skip) (.exit 0))) (.seq (.block 1 (cs c200_r5 (cs c200_r6 (cs c200_r7 (cs c200_r8 (.cond (.t 62) (cs c200_r9 (.ret)) (.skip))))))) (co c200_r4))
def c200_r10:CL:=[cq 8 (.mov (.bool true))]
def c200_r11:CL:=[cm 63 0,
 cq 64 (.nilc (.t 63)),
 cq 65 (.fld 0 (.t 64)),
 cq 66 (.fld 2 (.t 65)),
 cq 67 (.fld 0 (.t 66)),
 cq 68 (.ldi 1 false (.t 67)),
 cq 69 (.fld 3 (.t 5)),
 cn (.sto 5 1 (.t 69) (.t 68))]
def c200_r12:CL:=[cq 70 (.fld 3 (.t 5)),
 cq 71 (.ldo 5 1 false (.t 70)),
 cm 72 0,
 cq 73 (.nilc (.t 72)),
 cq 74 (.fld 0 (.t 73)),
 cq 75 (.fld 2 (.t 74)),
 cq 76 (.fld 1 (.t 75)),
 cq 77 (.ldi 1 false (.t 76)),
 cq 78 (.bin .leq (.t 71) (.t 77))]
def c200_r14:CL:=[cq 11 (.mov (ci 0))]
def c200_r15:CL:=[cm 83 0,
 cq 84 (.nilc (.t 83)),
 cq 85 (.fld 0 (.t 84)),
 cq 86 (.fld 4 (.t 85)),
 cq 87 (.ldi 1 false (.t 86)),
 cq 88 (.len (.t 87)),
 cq 89 (.mov (ci 0))]
def c200_r16:CL:=[cq 90 (.bin .lss (.t 89) (.t 88))]
def c200_r17:CL:=[cq 91 (.ixi 4 (.t 87) (.t 89)),
 cq 92 (.ldi 4 true (.t 91)),
 cq 13 (.alo 13 [ci 0,ci 0,ci 0,ci 0]),
 cn (.sto 13 4 (.t 13) (.t 92))]
def c200_r18:CL:=[cm 93 0,
 cq 94 (.ldo 5 5 true (.t 5)),
 cq 95 (.ldo 13 4 true (.t 13)),
 cq 96 (.call 212 [.t 93,.t 94,.t 95] []),
 cq 97 (.not (.t 96))]
def c200_r19:CL:=[cm 98 11,
 cq 99 (.bin .add (.t 98) (ci 1)),
 cm 11 99]
def c200_r20:CL:=[cq 100 (.bin .add (.t 89) (ci 1)),
 cm 89 100]
def c200_b1:AC:=cs c200_r16 (.seq (.cond (.t 90) (.skip) (.exit 4)) (.seq (.block 5 (cs c200_r17 (cs c200_r18 (.cond (.t 97) (co c200_r19) (.skip))))) (co c200_r20)))
def c200_r21:CL:=[cm 101 3,
 cq 102 (.ldo 5 5 true (.t 5)),
 cm 103 11,
 cq 104 (.callb (.t 101) [.t 102,.t 103] 0),
 cq 105 (.not (.t 104))]
def c200_r22:CL:=[cq 8 (.mov (.bool false))]
def c200_r13:CL:=[cq 79 (.fld 3 (.t 5)),
 cq 80 (.ldo 5 1 false (.t 79)),
 cq 81 (.bin .add (.t 80) (ci 1)),
 cq 82 (.fld 3 (.t 5)),
 cn (.sto 5 1 (.t 82) (.t 81))]
def c200_b2:AC:=.seq (.seq (.ops c200_r12 true) (.cond (.t 78) (.skip) (.exit 2))) (.seq (.block 3 (cs c200_r14 (.seq (cs c200_r15 (.block 4 (.loop c200_b1 [0,3,5,11,87,88,89] [0,5]))) (cs c200_r21 (.cond (.t 105) (cs c200_r22 (.ret)) (.skip)))))) (co c200_r13))
def c200_r23:CL:=[cq 8 (.mov (.bool true))]
def c200:AFn:=⟨106,[.tmp 8],cs c200_r0 (.seq (cs c200_r1 (.cond (.t 21) (.seq (cs c200_r2 (.block 0 (.loop c200_b0 [0,2,3,5,9] [0,5]))) (cs c200_r10 (.ret))) (.skip))) (.seq (cs c200_r11 (.block 2 (.loop c200_b2 [0,3,5] [0,5]))) (cs c200_r23 (.ret))))⟩
def c201_r0:CL:=[cq 4 (.alo 4 [.nil 1,.nil 2,.nilm])]
def c201_r1:CL:=[cq 13 (.bso 13 153 1 [.nil 1]),
 cq 14 (.yy (.mkm 14 (some (3,1)))),
 cq 15 (.bld [.nil 1,.nilv 2,.nilm] [(0,1,.t 13),(2,1,.t 14)]),
 cq 5 (.alo 5 [.nil 1,.nil 2,.nilm]),
 cn (.sto 5 3 (.t 5) (.t 15))]
def c201_r2:CL:=[cm 16 0,
 cq 17 (.len (.t 16)),
 cq 18 (.mov (ci 0))]
def c201_r3:CL:=[cq 19 (.bin .lss (.t 18) (.t 17))]
def c201_r4:CL:=[cm 20 18,
 cq 21 (.ixi 5 (.t 16) (.t 18)),
 cq 22 (.ldi 5 true (.t 21)),
 cq 7 (.alo 7 [ci 0,ci 0,ci 0,ci 0,ci 0]),
 cm 6 20,
 cn (.sto 7 5 (.t 7) (.t 22))]
def c201_r5:CL:=[cq 23 (.fld 0 (.t 5)),
 cq 24 (.ldo 5 1 false (.t 23)),
 cm 25 6,
 cq 26 (.ixo 13 1 (.t 24) (.t 25)),
 cq 27 (.ldo 13 1 false (.t 26)),
 cq 28 (.len (.t 27)),
 cq 29 (.yy (.mks 29 3 8 [ci 0] (.t 28))),
 cm 8 29]
def c201_r6:CL:=[cm 30 8,
 cq 31 (.fld 0 (.t 5)),
 cq 32 (.ldo 5 1 false (.t 31)),
 cm 33 6,
 cq 34 (.ixo 13 1 (.t 32) (.t 33)),
 cq 35 (.ldo 13 1 false (.t 34)),
 cq 36 (.cpy 29 (.t 30) (.t 35))]
def c201_r7:CL:=[cq 37 (.fld 2 (.t 7)),
 cq 38 (.ldo 7 1 false (.t 37)),
 cm 9 38]
def c201_r8:CL:=[cm 39 9,
 cq 40 (.bin .eql (.t 39) (ci 2))]
def c201_r9:CL:=[cm 41 1,
 cm 42 6,
 cq 43 (.calld (.t 41) [.t 42] []),
 cm 9 43]
def c201_r10:CL:=[cq 44 (.fld 0 (.t 7)),
 cq 45 (.ldo 7 1 false (.t 44))]
def c201_r11:CL:=[cq 47 (.bin .eql (.t 45) (ci 1)),
 cm 46 47]
def c201_r12:CL:=[cm 48 8,
 cq 49 (.fld 1 (.t 7)),
 cq 50 (.ldo 7 1 false (.t 49)),
 cm 51 9,
 cm 52 8,
 cq 53 (.leno 29 (.t 52)),
 cq 54 (.bin .add (.t 53) (ci 1)),
 cq 55 (.call 214 [.t 50,.t 51,.t 54] []),
 cq 56 (.fld 1 (.t 5)),
 cq 57 (.ldo 5 1 false (.t 56)),
 cq 58 (.leno 6001 (.t 57)),
 cq 59 (.bso 59 3 1 [.t 58]),
 cq 60 (.callh 213 [.t 48,.t 55,.t 59] [29,59]),
 cm 8 60]
def c201_r13:CL:=[cq 61 (.fld 1 (.t 5)),
 cq 62 (.ldo 5 1 false (.t 61)),
 cq 63 (.fld 3 (.t 7)),
 cq 64 (.ldo 7 1 false (.t 63)),
 cq 65 (.fld 4 (.t 7)),
 cq 66 (.ldo 7 1 false (.t 65)),
 cq 67 (.bld [ci 0,ci 0] [(0,1,.t 64),(1,1,.t 66)]),
 cq 68 (.bsl 2 [.t 67]),
 cq 69 (.app 6001 242 2 16 (.t 62) (.t 68)),
 cq 70 (.fld 1 (.t 5)),
 cn (.sto 5 1 (.t 70) (.t 69))]
def c201_r14:CL:=[cq 72 (.bin .eql (.t 45) (ci 2)),
 cm 71 72]
def c201_r15:CL:=[cq 73 (.fld 1 (.t 7)),
 cq 74 (.ldo 7 1 false (.t 73)),
 cm 75 9,
 cm 76 8,
 cq 77 (.leno 29 (.t 76)),
 cq 78 (.call 214 [.t 74,.t 75,.t 77] []),
 cm 10 78]
def c201_r16:CL:=[cm 79 8,
 cm 80 10,
 cm 81 10,
 cq 82 (.bin .add (.t 81) (ci 1)),
 cq 83 (.callh 215 [.t 79,.t 80,.t 82] [29]),
 cm 8 83]
def c201_r17:CL:=[cq 85 (.bin .eql (.t 45) (ci 3)),
 cm 84 85]
def c201_r18:CL:=[cm 86 8,
 cq 87 (.callh 216 [.t 86] [29])]
def c201_r19:CL:=[cq 89 (.bin .eql (.t 45) (ci 4)),
 cm 88 89]
def c201_r20:CL:=[cm 90 8,
 cq 91 (.leno 29 (.t 90)),
 cq 92 (.mov (ci 0))]
def c201_r21:CL:=[cq 93 (.bin .lss (.t 92) (.t 91))]
def c201_r22:CL:=[cq 94 (.ixo 29 1 (.t 90) (.t 92)),
 cq 95 (.ldo 29 1 false (.t 94)),
 cm 12 95]
def c201_r23:CL:=[cq 96 (.fld 2 (.t 5)),
 cq 97 (.ldo 5 1 false (.t 96)),
 cm 98 12,
 cq 99 (.fld 2 (.t 5)),
 cq 100 (.ldo 5 1 false (.t 99)),
 cm 101 12,
 cq 102 (.yy (.lkr 14 (some .i64) (.t 100) (.t 101))),
 cm 103 6,
 cq 104 (.bsl 1 [.t 103]),
 cq 105 (.app 14 3 1 8 (.t 102) (.t 104)),
 cn (.yy (.mupr 14 (some .i64) (.t 97) (.t 98) (.t 105)))]
def c201_r24:CL:=[cq 106 (.bin .add (.t 92) (ci 1)),
 cm 92 106]
def c201_b0:AC:=cs c201_r21 (.seq (.cond (.t 93) (.skip) (.exit 3)) (.seq (.block 4 (cs c201_r22 (.ops c201_r23 true))) (co c201_r24)))
def c201_r25:CL:=[cq 107 (.fld 0 (.t 5)),
 cq 108 (.ldo 5 1 false (.t 107)),
 cm 109 8,
 cq 110 (.bsl 1 [.t 109]),
 cq 111 (.app 13 153 1 24 (.t 108) (.t 110)),
 cq 112 (.fld 0 (.t 5)),
 cn (.sto 5 1 (.t 112) (.t 111))]
def c201_r26:CL:=[cq 113 (.bin .add (.t 18) (ci 1)),
 cm 18 113]
def c201_b1:AC:=cs c201_r3 (.seq (.cond (.t 19) (.skip) (.exit 0)) (.seq (.block 1 (cs c201_r4 (cs c201_r5 (cs c201_r6 (cs c201_r7 (.seq (cs c201_r8 (.cond (.t 40) (co c201_r9) (.skip))) (.seq (cs c201_r10 (.block 2 (cs c201_r11 (.cond (.t 46) (.seq (.ops c201_r12 true) (co c201_r13)) (cs c201_r14 (.cond (.t 71) (cs c201_r15 (co c201_r16)) (cs c201_r17 (.cond (.t 84) (co c201_r18) (cs c201_r19 (.cond (.t 88) (cs c201_r20 (.block 3 (.loop c201_b0 [1,4,5,6,8,16,17,18,90,91,92] [4,5,13,14,29,6001]))) (.skip))))))))))) (.fz [1,4,5,8,16,17,18] [4,5,13,14,6001] (co c201_r25))))))))) (co c201_r26)))
def c201_r27:CL:=[cq 114 (.ldo 5 3 true (.t 5)),
 cn (.sto 4 3 (.t 4) (.t 114))]
def c201:AFn:=⟨115,[.cell 4 3 true],cs c201_r0 (cs c201_r1 (.gh 6001 5 1 242 2 (.seq (cs c201_r2 (.block 0 (.loop c201_b1 [1,4,5,16,17,18] [4,5,13,14,6001]))) (cs c201_r27 (.ret)))))⟩
def c202_r0:CL:=[cq 4 (.mov (ci 0))]
def c202_r1:CL:=[cq 5 (.ldi 1 false (.t 1)),
 cq 6 (.fld 3 (.t 2)),
 cq 7 (.ldi 1 false (.t 6)),
 cm 8 0,
 cq 9 (.yy (.lki (some .i64) (ci 0) (.t 7) (.t 8))),
 cq 10 (.bin .shr (.t 5) (.t 9)),
 cq 11 (.bin .and (.t 10) (ci 1)),
 cm 4 11]
def c202:AFn:=⟨12,[.tmp 4],cs c202_r0 (cs c202_r1 (.ret))⟩
def c203_r0:CL:=[cq 2 (.boxi (.t 0)),
 cq 3 (.boxi (.t 1)),
 cq 4 (.mov (.bool false))]
def c203_r1:CL:=[cq 7 (.fld 0 (.t 2)),
 cq 8 (.ldi 1 false (.t 7)),
 cq 9 (.fld 0 (.t 3)),
 cq 10 (.ldi 1 false (.t 9)),
 cq 11 (.ixi 1 (.t 8) (.t 10)),
 cq 12 (.ldi 1 false (.t 11)),
 cm 5 12]
def c203_r2:CL:=[cq 13 (.fld 1 (.t 2)),
 cq 14 (.ldi 1 false (.t 13)),
 cm 15 5,
 cq 16 (.fld 1 (.t 3)),
 cq 17 (.ldi 1 false (.t 16)),
 cq 18 (.fld 2 (.t 3)),
 cq 19 (.ldi 1 false (.t 18)),
 cm 20 5,
 cq 21 (.len (.t 20)),
 cq 22 (.call 214 [.t 17,.t 19,.t 21] []),
 cq 23 (.ixi 1 (.t 15) (.t 22)),
 cq 24 (.ldi 1 false (.t 23)),
 cq 25 (.ixi 2 (.t 14) (.t 24)),
 cq 26 (.ldi 2 true (.t 25)),
 cq 6 (.alo 6 [ci 0,ci 0]),
 cn (.sto 6 2 (.t 6) (.t 26))]
def c203_r3:CL:=[cq 27 (.fld 3 (.t 3)),
 cq 28 (.ldi 1 false (.t 27)),
 cq 29 (.bin .lss (.t 28) (ci 0)),
 cm 30 29,
 cv 31 30 (.fld 3 (.t 3)),
 cv 32 30 (.ldi 1 false (.t 31)),
 cv 33 30 (.fld 0 (.t 6)),
 cv 34 30 (.ldo 6 1 false (.t 33)),
 cv 35 30 (.bin .eql (.t 32) (.t 34)),
 cq 36 (.pick (.t 30) (.bool true) (.t 35)),
 cm 37 36,
 cu 38 37 (.fld 4 (.t 3)),
 cu 39 37 (.ldi 1 false (.t 38)),
 cu 40 37 (.bin .lss (.t 39) (ci 0)),
 cw 41 37 40,
 cv 42 41 (.fld 4 (.t 3)),
 cv 43 41 (.ldi 1 false (.t 42)),
 cv 44 41 (.fld 1 (.t 6)),
 cv 45 41 (.ldo 6 1 false (.t 44)),
 cv 46 41 (.bin .eql (.t 43) (.t 45)),
 cu 47 37 (.pick (.t 41) (.bool true) (.t 46)),
 cq 48 (.pick (.t 37) (.t 47) (.bool false)),
 cm 4 48]
def c203:AFn:=⟨49,[.tmp 4],cs c203_r0 (cs c203_r1 (.seq (.ops c203_r2 true) (cs c203_r3 (.ret))))⟩
def c204_r0:CL:=[cq 1 (.boxi (.t 0)),
 cq 2 (.mov (.nilf))]
def c204_r1:CL:=[cq 3 (.yy (.mkf 217 [] [.t 1])),
 cm 2 3]
def c204:AFn:=⟨4,[.tmp 2],cs c204_r0 (cs c204_r1 (.ret))⟩
def c205_r0:CL:=[cq 2 (.boxi (.t 0)),
 cq 3 (.mov (ci 0))]
def c205_r1:CL:=[cq 4 (.ldi 3 true (.t 2)),
 cq 5 (.call 120 [.t 4] []),
 cq 6 (.ldi 1 false (.t 1)),
 cq 7 (.ixi 1 (.t 5) (.t 6)),
 cq 8 (.ldi 1 false (.t 7)),
 cm 3 8]
def c205:AFn:=⟨9,[.tmp 3],cs c205_r0 (.seq (.ops c205_r1 true) (.ret))⟩
def c212_r0:CL:=[cq 4 (.boxi (.t 1)),
 cq 5 (.boxi (.t 2)),
 cq 6 (.mov (.bool false))]
def c212_r1:CL:=[cm 8 0,
 cq 9 (.ldi 5 true (.t 4)),
 cq 10 (.fld 0 (.t 5)),
 cq 11 (.ldi 1 false (.t 10)),
 cq 12 (.fld 1 (.t 5)),
 cq 13 (.ldi 1 false (.t 12)),
 cq 14 (.call 155 [.t 8,.t 9,.t 11,.t 13] []),
 cm 15 0,
 cq 16 (.nilc (.t 15)),
 cq 17 (.fld 6 (.t 16)),
 cq 18 (.ldi 1 false (.t 17)),
 cq 19 (.bin .mul (.t 14) (.t 18)),
 cq 20 (.fld 2 (.t 5)),
 cq 21 (.ldi 1 false (.t 20)),
 cq 22 (.fld 4 (.t 4)),
 cq 23 (.ldi 1 false (.t 22)),
 cq 24 (.bin .mul (.t 21) (.t 23)),
 cq 25 (.bin .sub (.t 19) (.t 24)),
 cm 7 25]
def c212_r2:CL:=[cm 26 7,
 cq 27 (.bin .lss (.t 26) (ci 0))]
def c212_r3:CL:=[cm 28 7,
 cq 29 (.yy (.neg (.t 28))),
 cm 7 29]
def c212_r4:CL:=[cm 30 7,
 cq 31 (.fld 4 (.t 4)),
 cq 32 (.ldi 1 false (.t 31)),
 cq 33 (.bin .quo (.t 30) (.t 32)),
 cq 34 (.fld 3 (.t 5)),
 cq 35 (.ldi 1 false (.t 34)),
 cq 36 (.bin .lss (.t 33) (.t 35)),
 cm 37 36,
 cx 38 37 7,
 cv 39 37 (.fld 4 (.t 4)),
 cv 40 37 (.ldi 1 false (.t 39)),
 cv 41 37 (.bin .quo (.t 38) (.t 40)),
 cv 42 37 (.fld 3 (.t 5)),
 cv 43 37 (.ldi 1 false (.t 42)),
 cv 44 37 (.bin .eql (.t 41) (.t 43)),
 cx 45 37 44,
 cw 46 45 7,
 cu 47 45 (.fld 4 (.t 4)),
 cu 48 45 (.ldi 1 false (.t 47)),
 cu 49 45 (.bin .rem (.t 46) (.t 48)),
 cu 50 45 (.bin .eql (.t 49) (ci 0)),
 cv 51 37 (.pick (.t 45) (.t 50) (.bool false)),
 cq 52 (.pick (.t 37) (.bool true) (.t 51)),
 cm 6 52]
def c212:AFn:=⟨53,[.tmp 6],cs c212_r0 (.seq (.ops c212_r1 true) (.seq (cs c212_r2 (.cond (.t 27) (co c212_r3) (.skip))) (.seq (.ops c212_r4 true) (.ret))))⟩
def c214_r0:CL:=[cq 6 (.mov (ci 0))]
def c214_r1:CL:=[cm 7 1,
 cq 8 (.bin .eql (.t 7) (ci 1))]
def c214_r2:CL:=[cm 9 2,
 cq 10 (.bin .sub (.t 9) (ci 1)),
 cm 11 0,
 cq 12 (.bin .sub (.t 10) (.t 11)),
 cm 6 12]
def c214_r3:CL:=[cm 13 0,
 cm 6 13]
def c214:AFn:=⟨14,[.tmp 6],cs c214_r0 (.seq (cs c214_r1 (.cond (.t 8) (cs c214_r2 (.ret)) (.skip))) (cs c214_r3 (.ret)))⟩
def c217_r0:CL:=[cq 5 (.mov (.bool false))]
def c217_r1:CL:=[cq 6 (.ldi 1 false (.t 2)),
 cm 7 0,
 cq 8 (.bin .sub (.t 7) (ci 1)),
 cq 9 (.call 130 [.t 6,ci 0,.t 8] []),
 cm 5 9]
def c217:AFn:=⟨10,[.tmp 5],cs c217_r0 (cs c217_r1 (.ret))⟩
theorem c132_ok:FnOk Tryz.prog 132 c132:=⟨_,Tryz.func132,by kernel_rfl⟩
theorem c133_ok:FnOk Tryz.prog 133 c133:=⟨_,Tryz.func133,by kernel_rfl⟩
theorem c134_ok:FnOk Tryz.prog 134 c134:=⟨_,Tryz.func134,by kernel_rfl⟩
theorem c135_ok:FnOk Tryz.prog 135 c135:=⟨_,Tryz.func135,by kernel_rfl⟩
theorem c136_ok:FnOk Tryz.prog 136 c136:=⟨_,Tryz.func136,by kernel_rfl⟩
theorem c137_ok:FnOk Tryz.prog 137 c137:=⟨_,Tryz.func137,by kernel_rfl⟩
theorem c138_ok:FnOk Tryz.prog 138 c138:=⟨_,Tryz.func138,by kernel_rfl⟩
theorem c139_ok:FnOk Tryz.prog 139 c139:=⟨_,Tryz.func139,by kernel_rfl⟩
theorem c140_ok:FnOk Tryz.prog 140 c140:=⟨_,Tryz.func140,by kernel_rfl⟩
theorem c141_ok:FnOk Tryz.prog 141 c141:=⟨_,Tryz.func141,by kernel_rfl⟩
theorem c142_ok:FnOk Tryz.prog 142 c142:=⟨_,Tryz.func142,by kernel_rfl⟩
theorem c143_ok:FnOk Tryz.prog 143 c143:=⟨_,Tryz.func143,by kernel_rfl⟩
theorem c144_ok:FnOk Tryz.prog 144 c144:=⟨_,Tryz.func144,by kernel_rfl⟩
theorem c145_ok:FnOk Tryz.prog 145 c145:=⟨_,Tryz.func145,by kernel_rfl⟩
theorem c153_ok:FnOk Tryz.prog 153 c153:=⟨_,Tryz.func153,by kernel_rfl⟩
theorem c154_ok:FnOk Tryz.prog 154 c154:=⟨_,Tryz.func154,by kernel_rfl⟩
theorem c155_ok:FnOk Tryz.prog 155 c155:=⟨_,Tryz.func155,by kernel_rfl⟩
theorem c160_ok:FnOk Tryz.prog 160 c160:=⟨_,Tryz.func160,by kernel_rfl⟩
theorem c161_ok:FnOk Tryz.prog 161 c161:=⟨_,Tryz.func161,by kernel_rfl⟩
theorem c162_ok:FnOk Tryz.prog 162 c162:=⟨_,Tryz.func162,by kernel_rfl⟩
theorem c163_ok:FnOk Tryz.prog 163 c163:=⟨_,Tryz.func163,by kernel_rfl⟩
theorem c164_ok:FnOk Tryz.prog 164 c164:=⟨_,Tryz.func164,by kernel_rfl⟩
theorem c165_ok:FnOk Tryz.prog 165 c165:=⟨_,Tryz.func165,by kernel_rfl⟩
theorem c167_ok:FnOk Tryz.prog 167 c167:=⟨_,Tryz.func167,by kernel_rfl⟩
theorem c168_ok:FnOk Tryz.prog 168 c168:=⟨_,Tryz.func168,by kernel_rfl⟩
theorem c170_ok:FnOk Tryz.prog 170 c170:=⟨_,Tryz.func170,by kernel_rfl⟩
theorem c171_ok:FnOk Tryz.prog 171 c171:=⟨_,Tryz.func171,by kernel_rfl⟩
theorem c172_ok:FnOk Tryz.prog 172 c172:=⟨_,Tryz.func172,by kernel_rfl⟩
theorem c173_ok:FnOk Tryz.prog 173 c173:=⟨_,Tryz.func173,by kernel_rfl⟩
theorem c174_ok:FnOk Tryz.prog 174 c174:=⟨_,Tryz.func174,by kernel_rfl⟩
theorem c179_ok:FnOk Tryz.prog 179 c179:=⟨_,Tryz.func179,by kernel_rfl⟩
theorem c180_ok:FnOk Tryz.prog 180 c180:=⟨_,Tryz.func180,by kernel_rfl⟩
theorem c184_ok:FnOk Tryz.prog 184 c184:=⟨_,Tryz.func184,by kernel_rfl⟩
theorem c185_ok:FnOk Tryz.prog 185 c185:=⟨_,Tryz.func185,by kernel_rfl⟩
theorem c186_ok:FnOk Tryz.prog 186 c186:=⟨_,Tryz.func186,by kernel_rfl⟩
theorem c187_ok:FnOk Tryz.prog 187 c187:=⟨_,Tryz.func187,by kernel_rfl⟩
theorem c188_ok:FnOk Tryz.prog 188 c188:=⟨_,Tryz.func188,by kernel_rfl⟩
theorem c200_ok:FnOk Tryz.prog 200 c200:=⟨_,Tryz.func200,by kernel_rfl⟩
theorem c201_ok:FnOk Tryz.prog 201 c201:=⟨_,Tryz.func201,by kernel_rfl⟩
theorem c202_ok:FnOk Tryz.prog 202 c202:=⟨_,Tryz.func202,by kernel_rfl⟩
theorem c203_ok:FnOk Tryz.prog 203 c203:=⟨_,Tryz.func203,by kernel_rfl⟩
theorem c204_ok:FnOk Tryz.prog 204 c204:=⟨_,Tryz.func204,by kernel_rfl⟩
theorem c205_ok:FnOk Tryz.prog 205 c205:=⟨_,Tryz.func205,by kernel_rfl⟩
theorem c212_ok:FnOk Tryz.prog 212 c212:=⟨_,Tryz.func212,by kernel_rfl⟩
theorem c214_ok:FnOk Tryz.prog 214 c214:=⟨_,Tryz.func214,by kernel_rfl⟩
theorem c217_ok:FnOk Tryz.prog 217 c217:=⟨_,Tryz.func217,by kernel_rfl⟩
end Go.Pf




/- The codes are unfolded by simp. -/
namespace Go.Pf
open Go.Ev
attribute [simp] c3_r0 c3_r1 c3_r2 c3_r3 c3_r4 c3_r5 c3_r6 c3_r7 c3_r8 c3_r9 c3_r10 c3_r11 c3_r12 c3_r13 c3_r14 c3_r15 c3_r16 c3_r17 c3_r18 c3_r19 c3_r20 c3 c4_r0 c4_r1 c4_r2 c4_r3 c4_r4 c4_r5 c4_r6 c4 c5_r0 c5_r1 c5_r2 c5_r3 c5_r4 c5_r5 c5_r6 c5_r8 c5_r9 c5_r10 c5_r11 c5_r12 c5_r13 c5_r7 c5_r14 c5_r15 c5_r16 c5_r17 c5_r18 c5_r19 c5_r20 c5_r21 c5_r22 c5 c6_r0 c6_r1 c6_r2 c6_r3 c6_r4 c6_r5 c6_r6 c6_r7 c6_r8 c6_r9 c6_r10 c6_r11 c6_r12 c6_r13 c6_r14 c6_r15 c6_r17 c6_r18 c6_r16 c6_r19 c6 c7_r0 c7_r1 c7_r2 c7_r3 c7_r4 c7_r5 c7_r6 c7_r7 c7_r8 c7_r9 c7_r10 c7_r11 c7_r12 c7_r13 c7_r14 c7_r15 c7_r16 c7 c8_r0 c8_r1 c8_r2 c8_r3 c8_r4 c8_r5 c8_r6 c8_r7 c8_r8 c8_r9 c8_r10 c8 c9_r0 c9_r1 c9_r2 c9_r3 c9_r4 c9_r5 c9_r6 c9_r7 c9_r8 c9_r9 c9_r10 c9_r11 c9_r12 c9_r13 c9_r14 c9 c10_r0 c10_r1 c10_r2 c10_r3 c10_r4 c10_r5 c10_r6 c10_r7 c10_r8 c10_r9 c10_r10 c10_r11 c10_r12 c10_r13 c10_r14 c10_r15 c10_r16 c10 c11_r0 c11_r1 c11_r2 c11_r3 c11_r4 c11_r5 c11_r6 c11_r7 c11_r8 c11_r9 c11_r10 c11_r11 c11_r12 c11_r14 c11_r15 c11_r13 c11_r16 c11_r17 c11_r18 c11_r19 c11_r20 c11_r21 c11_r22 c11_r23 c11_r24 c11_r25 c11_r26 c11_r27 c11_r28 c11 c12_r0 c12_r1 c12_r2 c12_r3 c12_r4 c12_r5 c12_r6 c12_r7 c12_r8 c12_r9 c12_r10 c12_r11 c12_r12 c12_r13 c12_r14 c12_r15 c12_r16 c12_r17 c12_r18 c12_r19 c12_r21 c12_r22 c12_r23 c12_r20 c12_r24 c12_r25 c12_r26 c12_r27 c12_r28 c12_r29 c12_r30 c12 c16_r0 c17_r0 c17_r1 c17_r2 c17_r3 c17_r4 c17_r5 c17_r6 c17_r7 c17_r8 c17_r9 c17 c19_r0 c19_r1 c19 c20_r0 c20_r1 c20_r2 c20_r3 c20_r4 c20_r5 c20_r6 c20_r7 c20_r8 c20_r9 c20_r10 c20_r11 c20_r12 c20_r13 c20 c24_r0 c24_r1 c24_r2 c24_r3 c24_r4 c24_r5 c24_r6 c24_r7 c24_r9 c24_r8 c24_r10 c24_r11 c24_r13 c24_r14 c24_r12 c24_r15 c24 c25_r0 c25_r1 c25_r2 c25_r3 c25_r4 c25_r5 c25_r6 c25_r7 c25_r8 c25_r9 c25_r10 c25_r11 c25_r12 c25_r13 c25_r14 c25_r15 c25_r16 c25 c26_r0 c26_r1 c26_r2 c26_r3 c26_r4 c26_r5 c26_r6 c26_r7 c26_r8 c26_r10 c26_r11 c26_r12 c26_r9 c26_r13 c26 c27_r0 c27_r1 c27_r2 c27_r3 c27_r4 c27 c31_r0 c31_r1 c31_r2 c31_r3 c31_r4 c31_r5 c31_r6 c31_r7 c31_r8 c31_r9 c31_r10 c31_r11 c31 c34_r0 c34_r1 c34_r2 c34_r3 c34_r4 c34_r6 c34_r7 c34_r5 c34_r8 c34 c52_r0 c52_r1 c52_r2 c52_r4 c52_r5 c52_r3 c52_r6 c52 c56_r0 c56_r1 c56_r2 c56_r3 c56_r4 c56_r5 c56 c57_r0 c57_r1 c57 c58_r0 c58_r1 c58 c60_r0 c60_r1 c60_r2 c60_r3 c60 c61_r0 c61_r1 c61_r2 c61_r3 c62_r0 c62_r1 c62_r2 c62_r3 c62 c63_r0 c63_r1 c63_r2 c63_r3 c63_r4 c63_r5 c63_r6 c63_r7 c63_r8 c63_r9 c63_r10 c63_r11 c63 c64_r0 c64_r1 c64_r2 c64_r3 c64_r4 c64_r5 c64_r6 c64_r7 c64_r8 c64 c65_r0 c65_r1 c65_r2 c65_r3 c65_r4 c65_r5 c65_r6 c65_r7 c65_r8 c65 c66_r0 c66_r1 c66_r2 c66_r3 c66_r4 c66 c67_r0 c67_r1 c67 c70_r0 c70_r1 c70_r2 c70_r3 c70_r4 c70_r5 c70_r6 c70_r7 c70_r8 c70_r9 c70_r10 c70_r11 c70 c71_r0 c71_r1 c71 c72_r0 c72_r1 c72 c73_r0 c73_r1 c73_r2 c73_r3 c73 c74_r0 c74_r1 c74 c75_r0 c75_r1 c75_r2 c75_r3 c75_r4 c75_r5 c75_r6 c75_r7 c75_r8 c75_r9 c75_r10 c75_r11 c75 c76_r0 c76_r1 c76 c78_r0 c78_r1 c78_r2 c78_r3 c78_r4 c78_r5 c78_r6 c78_r7 c78_r9 c78_r10 c78_r8 c78_r11 c78 c79_r0 c79_r1 c79_r2 c79_r3 c79_r4 c79_r5 c79_r6 c79_r7 c79_r9 c79_r10 c79_r11 c79_r8 c79_r12 c79 c80_r0 c80_r1 c80_r2 c80_r3 c80_r4 c80_r5 c80_r6 c80_r7 c80_r8 c80_r9 c80_r10 c80_r11 c80_r12 c80_r13 c80_r14 c80_r15 c80_r16 c80_r17 c80 c81_r0 c81_r1 c81_r2 c81_r4 c81_r5 c81_r6 c81_r7 c81_r3 c81_r8 c81 c82_r0 c82_r1 c82 c83_r0 c83_r1 c83_r2 c83_r3 c83_r4 c83_r5 c83 c84_r0 c84_r1 c84 c85_r0 c85_r1 c85_r2 c85_r3 c85_r4 c85_r5 c85_r6 c85_r7 c85_r9 c85_r10 c85_r8 c85_r11 c85 c86_r0 c86_r1 c86_r2 c86_r3 c86_r4 c86_r6 c86_r7 c86_r5 c86_r8 c86_r9 c86_r11 c86_r12 c86_r13 c86_r10 c86_r14 c86 c87_r0 c87_r1 c87 c88_r0 c88_r1 c88_r2 c88_r3 c88_r5 c88_r6 c88_r4 c88_r7 c88 c89_r0 c89_r1 c89_r2 c89_r3 c89_r4 c89_r5 c89_r7 c89_r8 c89_r9 c89_r11 c89_r12 c89_r13 c89_r14 c89_r15 c89_r16 c89_r17 c89_r18 c89_r19 c89_r20 c89_r22 c89_r21 c89_r10 c89_r23 c89_r24 c89_r6 c89_r25 c89 c90_r0 c90_r1 c90_r2 c90_r3 c90_r5 c90_r4 c90_r6 c90 c91_r0 c91_r1 c91 c93_r0 c93_r1 c93 c96_r0 c96_r1 c96 c102_r0 c102_r1 c102 c115_r0 c115_r1 c115_r2 c115_r3 c115_r4 c115_r5 c115_r6 c115_r7 c115_r8 c115_r9 c115_r10 c115_r11 c115_r12 c115 c116_r0 c116_r1 c116_r2 c116_r3 c116_r4 c116_r5 c116_r6 c116_r7 c116_r8 c116 c117_r0 c117_r1 c117 c118_r0 c118_r1 c118 c119_r0 c119_r1 c119_r2 c119_r3 c119_r4 c119_r5 c119_r6 c119_r7 c119 c120_r0 c120_r1 c120 c121_r0 c121_r1 c121_r2 c121 c122_r0 c122_r1 c122 c123_r0 c123_r1 c123_r2 c123_r3 c123_r4 c123_r5 c123_r6 c123_r7 c123_r8 c123_r9 c123_r10 c123_r11 c123_r12 c123_r13 c123_r14 c123_r15 c123_r16 c123 c124_r0 c124_r1 c124_r2 c124 c125_r0 c125_r1 c125_r2 c125_r3 c125_r4 c125_r5 c125_r6 c125_r7 c125_r8 c125_r9 c125_r10 c125_r11 c125_r12 c125_r13 c125_r14 c125_r15 c125_r16 c125 c126_r0 c126_r1 c126_r2 c126_r3 c126_r4 c126_r6 c126_r7 c126_r8 c126_r9 c126_r5 c126_r10 c126_r11 c126_r12 c126_r14 c126_r15 c126_r16 c126_r17 c126_r13 c126_r18 c126 c127_r0 c127_r1 c127_r2 c127_r3 c127_r4 c127_r5 c127_r6 c127_r7 c127_r8 c127_r9 c127 c128_r0 c128_r1 c128 c129_r0 c129_r1 c129 c130_r0 c130_r1 c130 c131_r0 c131_r1 c131_r2 c131_r3 c131_r4 c131_r5 c131_r6 c131_r7 c131_r8 c131_r9 c131 c132_r0 c132_r1 c132_r2 c132_r3 c132_r4 c132_r5 c132_r6 c132 c133_r0 c133_r1 c133 c134_r0 c134_r1 c134 c135_r0 c135_r1 c135 c136_r0 c136_r1 c136 c137_r0 c137_r1 c137 c138_r0 c138_r1 c138 c139_r0 c139_r1 c139 c140_r0 c140_r1 c140_r2 c140_r3 c140_r4 c140_r5 c140_r6 c140_r7 c140 c141_r0 c141_r1 c141_r2 c141_r3 c141_r4 c141_r5 c141_r6 c141_r7 c141 c142_r0 c142_r1 c142_r2 c142_r3 c142_r5 c142_r6 c142_r7 c142_r8 c142_r9 c142_r10 c142_r11 c142_r12 c142_r13 c142_r4 c142_r14 c142 c143_r0 c143_r1 c143 c144_r0 c144_r1 c144 c145_r0 c145_r1 c145_r2 c145_r3 c145 c153_r0 c153_r1 c153_r2 c153_r3 c153_r4 c153_r5 c153_r6 c153_r7 c153_r8 c153_r9 c153 c154_r0 c154_r1 c154_r2 c154_r3 c154_r4 c154 c155_r0 c155_r1 c155 c160_r0 c160_r1 c160_r2 c160_r3 c160_r4 c160_r5 c160_r6 c160_r7 c160_r8 c160_r9 c160 c161_r0 c161_r1 c161_r2 c161_r3 c161 c162_r0 c162_r1 c162 c163_r0 c163_r1 c163_r2 c163_r3 c163_r4 c163_r5 c163_r6 c163_r7 c163 c164_r0 c164_r1 c164 c165_r0 c165_r1 c165_r2 c165_r3 c165_r4 c165_r5 c165_r6 c165_r7 c165 c167_r0 c167_r1 c167_r2 c167_r3 c167_r4 c167_r5 c167_r6 c167_r7 c167_r8 c167_r9 c167 c168_r0 c168_r1 c168_r2 c168_r3 c168_r4 c168_r5 c168_r6 c168 c170_r0 c170_r1 c170_r2 c170_r3 c170_r4 c170_r5 c170_r6 c170_r7 c170 c171_r0 c171_r1 c171_r2 c171_r3 c171_r4 c171_r5 c171_r6 c171_r7 c171 c172_r0 c172_r1 c172_r2 c172_r3 c172_r4 c172_r5 c172_r6 c172_r7 c172 c173_r0 c173_r1 c173_r2 c173_r3 c173_r4 c173_r5 c173_r6 c173_r7 c173_r8 c173_r9 c173 c174_r0 c174_r1 c174 c179_r0 c179_r1 c179_r2 c179_r3 c179_r4 c179_r5 c179_r6 c179_r7 c179 c180_r0 c180 c184_r0 c184_r1 c184_r2 c184_r3 c184_r4 c184_r5 c184_r6 c184_r7 c184_r8 c184 c185_r0 c185_r1 c185_r2 c185_r3 c185_r4 c185_r5 c185 c186_r0 c186_r1 c186_r2 c186_r3 c186_r4 c186_r5 c186_r6 c186_r7 c186_r8 c186 c187_r0 c187_r1 c187 c188_r0 c188_r1 c188 c200_r0 c200_r1 c200_r2 c200_r3 c200_r5 c200_r6 c200_r7 c200_r8 c200_r9 c200_r4 c200_r10 c200_r11 c200_r12 c200_r14 c200_r15 c200_r16 c200_r17 c200_r18 c200_r19 c200_r20 c200_r21 c200_r22 c200_r13 c200_r23 c200 c201_r0 c201_r1 c201_r2 c201_r3 c201_r4 c201_r5 c201_r6 c201_r7 c201_r8 c201_r9 c201_r10 c201_r11 c201_r12 c201_r13 c201_r14 c201_r15 c201_r16 c201_r17 c201_r18 c201_r19 c201_r20 c201_r21 c201_r22 c201_r23 c201_r24 c201_r25 c201_r26 c201_r27 c201 c202_r0 c202_r1 c202 c203_r0 c203_r1 c203_r2 c203_r3 c203 c204_r0 c204_r1 c204 c205_r0 c205_r1 c205 c212_r0 c212_r1 c212_r2 c212_r3 c212_r4 c212 c214_r0 c214_r1 c214_r2 c214_r3 c214 c217_r0 c217_r1 c217
attribute [simp] maxLen_val IntKind.inR IntKind.min IntKind.max IntKind.bits IntKind.signed
end Go.Pf
