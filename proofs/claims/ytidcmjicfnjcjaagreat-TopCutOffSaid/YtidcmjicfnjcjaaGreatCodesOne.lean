/- The codes of the functions, as a program of ours has printed them, and that they are the codes of the functions of the program. -/
import Derived.Test.YtidcmjicfnjcjaaGreatEvFour
import Derived.Test.YtidcmjicfnjcjaaGreatProg
import Derived.KernelRfl
set_option linter.all false

namespace Go.Pf
open Go.Ev in
abbrev CL:=List AOper
open Go.Ev in
@[simp] abbrev cq (n:Nat) (o:AOp):AOper:=⟨some n,none,o⟩
open Go.Ev in
@[simp] abbrev cu (n k:Nat) (o:AOp):AOper:=⟨some n,some (k,true),o⟩
open Go.Ev in
@[simp] abbrev cv (n k:Nat) (o:AOp):AOper:=⟨some n,some (k,false),o⟩
open Go.Ev in
@[simp] abbrev cn (o:AOp):AOper:=⟨none,none,o⟩
open Go.Ev in
@[simp] abbrev cm (n m:Nat):AOper:=⟨some n,none,.mov (.t m)⟩
open Go.Ev in
@[simp] abbrev cw (n k m:Nat):AOper:=⟨some n,some (k,true),.mov (.t m)⟩
open Go.Ev in
@[simp] abbrev cx (n k m:Nat):AOper:=⟨some n,some (k,false),.mov (.t m)⟩
open Go.Ev in
@[simp] abbrev cs (r:CL) (x:AC):AC:=.seq (.ops r false) x
open Go.Ev in
@[simp] abbrev co (r:CL):AC:=.ops r false
open Go.Ev in
@[simp] abbrev ci (n:Int):Opd:=.int .i64 n
open Go Go.Ev Go.Proofs Go.RowKit
def c3_r0:CL:=[cq 3 (.boxi (.t 0)),
 cq 6 (.mov (.bool false))]
def c3_r1:CL:=[cq 22 (.ldi 12 true (.t 3)),
 cq 23 (.call 13 [.t 22] []),
 cq 24 (.not (.t 23)),
 cm 25 24,
 cx 26 25 1,
 cv 27 25 (.bin .lss (.t 26) (ci 1)),
 cq 28 (.pick (.t 25) (.bool true) (.t 27)),
 cm 29 28,
 cx 30 29 1,
 cv 31 29 (.bin .gtr (.t 30) (ci 999999999)),
 cq 32 (.pick (.t 29) (.bool true) (.t 31)),
 cm 33 32,
 cv 34 33 (.fld 10 (.t 3)),
 cv 35 33 (.ldi 1 false (.t 34)),
 cx 36 33 1,
 cv 37 33 (.bin .add (.t 35) (.t 36)),
 cv 38 33 (.bin .gtr (.t 37) (ci 999999999)),
 cq 39 (.pick (.t 33) (.bool true) (.t 38)),
 cm 40 39,
 cv 41 40 (.fld 0 (.t 3)),
 cv 42 40 (.ldi 3 true (.t 41)),
 cx 43 40 2,
 cv 44 40 (.call 14 [.t 42,.t 43] []),
 cv 45 40 (.not (.t 44)),
 cq 46 (.pick (.t 40) (.bool true) (.t 45))]
def c3_r2:CL:=[cq 47 (.call 15 [] []),
 cm 6 47]
def c3_r3:CL:=[cq 48 (.ldi 12 true (.t 3)),
 cq 49 (.call 16 [.t 48] []),
 cq 7 (.alo 7 [.nil 5,.nil 5,ci 0,.nil 3,ci 0,ci 0,ci 0,.nil 4,ci 0,.nil 3,ci 0,ci 0]),
 cn (.sto 7 12 (.t 7) (.t 49))]
def c3_r4:CL:=[cq 50 (.fld 10 (.t 7)),
 cq 51 (.ldo 7 1 false (.t 50)),
 cm 52 1,
 cq 53 (.bin .add (.t 51) (.t 52)),
 cq 54 (.fld 10 (.t 7)),
 cn (.sto 7 1 (.t 54) (.t 53))]
def c3_r5:CL:=[cq 56 (.ldi 12 true (.t 3)),
 cq 57 (.call 17 [.t 56] []),
 cm 55 57,
 cq 58 (.ext (.t 55) 0),
 cq 59 (.ext (.t 55) 1),
 cq 8 (.alo 8 [ci 0,ci 0]),
 cn (.sto 8 2 (.t 8) (.t 58)),
 cm 9 59]
def c3_r6:CL:=[cq 61 (.ldo 7 12 true (.t 7)),
 cq 62 (.call 17 [.t 61] []),
 cm 60 62,
 cq 63 (.ext (.t 60) 0),
 cq 64 (.ext (.t 60) 1),
 cq 10 (.alo 10 [ci 0,ci 0]),
 cn (.sto 10 2 (.t 10) (.t 63)),
 cm 11 64]
def c3_r7:CL:=[cq 66 (.ldi 12 true (.t 3)),
 cm 67 2,
 cq 68 (.call 18 [.t 66,.t 67] []),
 cm 65 68,
 cq 69 (.ext (.t 65) 0),
 cq 70 (.ext (.t 65) 1),
 cm 12 69,
 cm 13 70]
def c3_r8:CL:=[cq 72 (.ldo 7 12 true (.t 7)),
 cm 73 2,
 cq 74 (.call 18 [.t 72,.t 73] []),
 cm 71 74,
 cq 75 (.ext (.t 71) 0),
 cq 76 (.ext (.t 71) 1),
 cm 14 75,
 cm 15 76]
def c3_r9:CL:=[cq 78 (.ldi 12 true (.t 3)),
 cq 79 (.call 19 [.t 78] []),
 cm 77 79,
 cq 80 (.ext (.t 77) 0),
 cq 81 (.ext (.t 77) 1),
 cm 16 80,
 cm 17 81]
def c3_r10:CL:=[cq 83 (.ldo 7 12 true (.t 7)),
 cq 84 (.call 19 [.t 83] []),
 cm 82 84,
 cq 85 (.ext (.t 82) 0),
 cq 86 (.ext (.t 82) 1),
 cm 18 85,
 cm 19 86]
def c3_r11:CL:=[cq 88 (.ldi 12 true (.t 3)),
 cq 89 (.call 20 [.t 88] []),
 cm 87 89,
 cq 90 (.ext (.t 87) 0),
 cq 91 (.ext (.t 87) 1),
 cm 20 90,
 cm 21 91]
def c3_r12:CL:=[cm 92 9,
 cq 93 (.call 21 [.t 92] []),
 cq 94 (.not (.t 93)),
 cm 95 94,
 cx 96 95 11,
 cx 97 95 9,
 cv 98 95 (.bin .neq (.t 96) (.t 97)),
 cq 99 (.pick (.t 95) (.bool true) (.t 98)),
 cm 100 99,
 cx 101 100 13,
 cx 102 100 9,
 cv 103 100 (.bin .neq (.t 101) (.t 102)),
 cq 104 (.pick (.t 100) (.bool true) (.t 103)),
 cm 105 104,
 cx 106 105 15,
 cx 107 105 9,
 cv 108 105 (.bin .neq (.t 106) (.t 107)),
 cq 109 (.pick (.t 105) (.bool true) (.t 108)),
 cm 110 109,
 cx 111 110 17,
 cx 112 110 9,
 cv 113 110 (.bin .neq (.t 111) (.t 112)),
 cq 114 (.pick (.t 110) (.bool true) (.t 113)),
 cm 115 114,
 cx 116 115 19,
 cx 117 115 9,
 cv 118 115 (.bin .neq (.t 116) (.t 117)),
 cq 119 (.pick (.t 115) (.bool true) (.t 118)),
 cm 120 119,
 cx 121 120 21,
 cv 122 120 (.call 21 [.t 121] []),
 cv 123 120 (.not (.t 122)),
 cq 124 (.pick (.t 120) (.bool true) (.t 123))]
def c3_r13:CL:=[cq 6 (.mov (.bool false))]
def c3_r14:CL:=[cm 125 9,
 cq 126 (.bin .neq (.t 125) (ci 0))]
def c3_r15:CL:=[cm 127 21,
 cm 128 9,
 cq 129 (.bin .eql (.t 127) (.t 128)),
 cm 130 129,
 cu 131 130 (.call 15 [] []),
 cq 132 (.pick (.t 130) (.t 131) (.bool false)),
 cm 6 132]
def c3_r16:CL:=[cq 133 (.fld 0 (.t 10)),
 cq 134 (.ldo 10 1 false (.t 133)),
 cq 135 (.fld 0 (.t 8)),
 cq 136 (.ldo 8 1 false (.t 135)),
 cq 137 (.bin .lss (.t 134) (.t 136)),
 cm 138 137,
 cv 139 138 (.fld 1 (.t 10)),
 cv 140 138 (.ldo 10 1 false (.t 139)),
 cv 141 138 (.fld 1 (.t 8)),
 cv 142 138 (.ldo 8 1 false (.t 141)),
 cv 143 138 (.bin .lss (.t 140) (.t 142)),
 cq 144 (.pick (.t 138) (.bool true) (.t 143)),
 cm 145 144,
 cx 146 145 14,
 cv 147 145 (.bin .eql (.t 146) (ci 1)),
 cx 148 145 147,
 cw 149 148 12,
 cu 150 148 (.bin .neq (.t 149) (ci 1)),
 cv 151 145 (.pick (.t 148) (.t 150) (.bool false)),
 cq 152 (.pick (.t 145) (.bool true) (.t 151)),
 cm 153 152,
 cx 154 153 18,
 cv 155 153 (.bin .eql (.t 154) (ci 1)),
 cx 156 153 155,
 cw 157 156 16,
 cu 158 156 (.bin .neq (.t 157) (ci 1)),
 cv 159 153 (.pick (.t 156) (.t 158) (.bool false)),
 cq 160 (.pick (.t 153) (.bool true) (.t 159))]
def c3_r17:CL:=[cq 6 (.mov (.bool false))]
def c3_r18:CL:=[cm 161 21,
 cq 162 (.bin .neq (.t 161) (ci 0))]
def c3_r19:CL:=[cm 163 16,
 cq 164 (.bin .neq (.t 163) (ci 1)),
 cm 165 164,
 cu 166 165 (.call 15 [] []),
 cq 167 (.pick (.t 165) (.t 166) (.bool false)),
 cm 6 167]
def c3_r20:CL:=[cm 168 20,
 cq 169 (.bin .geq (.t 168) (ci 0)),
 cm 170 169,
 cw 171 170 20,
 cu 172 170 (.bin .leq (.t 171) (ci 999999999)),
 cq 173 (.pick (.t 170) (.t 172) (.bool false)),
 cm 174 173,
 cw 175 174 16,
 cu 176 174 (.bin .eql (.t 175) (ci 1)),
 cu 177 174 (.fld 10 (.t 3)),
 cu 178 174 (.ldi 1 false (.t 177)),
 cw 179 174 20,
 cu 180 174 (.bin .leq (.t 178) (.t 179)),
 cu 181 174 (.beq false (.t 176) (.t 180)),
 cq 182 (.pick (.t 174) (.t 181) (.bool false)),
 cm 183 182,
 cw 184 183 18,
 cu 185 183 (.bin .eql (.t 184) (ci 1)),
 cu 186 183 (.fld 10 (.t 7)),
 cu 187 183 (.ldo 7 1 false (.t 186)),
 cw 188 183 20,
 cu 189 183 (.bin .leq (.t 187) (.t 188)),
 cu 190 183 (.beq false (.t 185) (.t 189)),
 cq 191 (.pick (.t 183) (.t 190) (.bool false)),
 cm 192 191,
 cu 193 192 (.call 15 [] []),
 cq 194 (.pick (.t 192) (.t 193) (.bool false)),
 cm 6 194]
def c3:AFn:=⟨195,[.tmp 6],cs c3_r0 (.seq (cs c3_r1 (.cond (.t 46) (cs c3_r2 (.ret)) (.skip))) (cs c3_r3 (cs c3_r4 (cs c3_r5 (cs c3_r6 (cs c3_r7 (cs c3_r8 (cs c3_r9 (cs c3_r10 (cs c3_r11 (.seq (cs c3_r12 (.cond (.t 124) (cs c3_r13 (.ret)) (.skip))) (.seq (cs c3_r14 (.cond (.t 126) (cs c3_r15 (.ret)) (.skip))) (.seq (cs c3_r16 (.cond (.t 160) (cs c3_r17 (.ret)) (.skip))) (.seq (cs c3_r18 (.cond (.t 162) (cs c3_r19 (.ret)) (.skip))) (cs c3_r20 (.ret))))))))))))))))⟩
def c4_r0:CL:=[cq 3 (.boxi (.t 0)),
 cq 4 (.boxi (.t 1)),
 cq 6 (.mov (.bool false))]
def c4_r1:CL:=[cq 9 (.ldi 12 true (.t 3)),
 cq 10 (.call 13 [.t 9] []),
 cq 11 (.not (.t 10)),
 cm 12 11,
 cv 13 12 (.fld 0 (.t 3)),
 cv 14 12 (.ldi 3 true (.t 13)),
 cx 15 12 2,
 cv 16 12 (.call 14 [.t 14,.t 15] []),
 cv 17 12 (.not (.t 16)),
 cq 18 (.pick (.t 12) (.bool true) (.t 17))]
def c4_r2:CL:=[cq 19 (.call 15 [] []),
 cm 6 19]
def c4_r3:CL:=[cq 20 (.ldi 12 true (.t 3)),
 cq 21 (.callo 16 [.t 20] [] 21),
 cq 22 (.ldi 12 true (.t 3)),
 cq 23 (.callo 16 [.t 22] [] 23),
 cq 7 (.alo 7 [.nil 5,.nil 5,ci 0,.nil 3,ci 0,ci 0,ci 0,.nil 4,ci 0,.nil 3,ci 0,ci 0]),
 cq 8 (.alo 8 [.nil 5,.nil 5,ci 0,.nil 3,ci 0,ci 0,ci 0,.nil 4,ci 0,.nil 3,ci 0,ci 0]),
 cn (.sto 7 12 (.t 7) (.t 21)),
 cn (.sto 8 12 (.t 8) (.t 23))]
def c4_r4:CL:=[cq 24 (.fld 0 (.t 7)),
 cq 25 (.fld 1 (.t 24)),
 cq 26 (.ldo 7 1 false (.t 25)),
 cq 27 (.fld 0 (.t 4)),
 cq 28 (.ldi 5 true (.t 27)),
 cq 29 (.bsl 5 [.t 28]),
 cq 30 (.app 21 48 5 40 (.t 26) (.t 29)),
 cq 31 (.fld 0 (.t 7)),
 cq 32 (.fld 1 (.t 31)),
 cn (.sto 7 1 (.t 32) (.t 30))]
def c4_r5:CL:=[cq 33 (.fld 3 (.t 8)),
 cq 34 (.fld 4 (.t 33)),
 cq 35 (.ldo 8 1 false (.t 34)),
 cq 36 (.fld 5 (.t 4)),
 cq 37 (.ldi 4 true (.t 36)),
 cq 38 (.bsl 4 [.t 37]),
 cq 39 (.app 23 50 4 32 (.t 35) (.t 38)),
 cq 40 (.fld 3 (.t 8)),
 cq 41 (.fld 4 (.t 40)),
 cn (.sto 8 1 (.t 41) (.t 39))]
def c4_r6:CL:=[cq 42 (.ldo 7 12 true (.t 7)),
 cq 43 (.ldi 12 true (.t 3)),
 cm 44 2,
 cq 45 (.call 22 [.t 42,.t 43,.t 44] [21]),
 cm 46 45,
 cu 47 46 (.ldo 8 12 true (.t 8)),
 cu 48 46 (.ldi 12 true (.t 3)),
 cw 49 46 2,
 cu 50 46 (.call 22 [.t 47,.t 48,.t 49] [23]),
 cq 51 (.pick (.t 46) (.t 50) (.bool false)),
 cm 52 51,
 cu 53 52 (.call 15 [] []),
 cq 54 (.pick (.t 52) (.t 53) (.bool false)),
 cm 6 54]
def c4:AFn:=⟨55,[.tmp 6],cs c4_r0 (.seq (cs c4_r1 (.cond (.t 18) (cs c4_r2 (.ret)) (.skip))) (.seq (.ops c4_r3 true) (cs c4_r4 (cs c4_r5 (cs c4_r6 (.ret))))))⟩
def c5_r0:CL:=[cq 3 (.boxi (.t 0)),
 cq 6 (.mov (.bool false))]
def c5_r1:CL:=[cq 18 (.ldi 12 true (.t 3)),
 cq 19 (.call 13 [.t 18] []),
 cq 20 (.not (.t 19)),
 cm 21 20,
 cx 22 21 1,
 cv 23 21 (.bin .lss (.t 22) (ci 0)),
 cq 24 (.pick (.t 21) (.bool true) (.t 23)),
 cm 25 24,
 cx 26 25 1,
 cv 27 25 (.bin .gtr (.t 26) (ci 99)),
 cq 28 (.pick (.t 25) (.bool true) (.t 27)),
 cm 29 28,
 cx 30 29 2,
 cv 31 29 (.bin .lss (.t 30) (ci 0)),
 cq 32 (.pick (.t 29) (.bool true) (.t 31)),
 cm 33 32,
 cx 34 33 2,
 cv 35 33 (.bin .gtr (.t 34) (ci 2)),
 cq 36 (.pick (.t 33) (.bool true) (.t 35))]
def c5_r2:CL:=[cq 37 (.call 15 [] []),
 cm 6 37]
def c5_r3:CL:=[cq 38 (.ldi 12 true (.t 3)),
 cq 39 (.callo 16 [.t 38] [] 39),
 cq 7 (.alo 7 [.nil 5,.nil 5,ci 0,.nil 3,ci 0,ci 0,ci 0,.nil 4,ci 0,.nil 3,ci 0,ci 0]),
 cn (.sto 7 12 (.t 7) (.t 39))]
def c5_r4:CL:=[cq 40 (.fld 0 (.t 7)),
 cq 41 (.fld 1 (.t 40)),
 cn (.sto 7 1 (.t 41) (.nil 5))]
def c5_r5:CL:=[cq 8 (.mov (ci 0))]
def c5_r6:CL:=[cm 42 8,
 cq 43 (.fld 0 (.t 7)),
 cq 44 (.fld 0 (.t 43)),
 cq 45 (.ldo 7 1 false (.t 44)),
 cq 46 (.leno 39 (.t 45)),
 cq 47 (.bin .lss (.t 42) (.t 46))]
def c5_r8:CL:=[cq 50 (.fld 0 (.t 7)),
 cq 51 (.fld 0 (.t 50)),
 cq 52 (.ldo 7 1 false (.t 51)),
 cm 53 8,
 cq 54 (.ixo 39 5 (.t 52) (.t 53)),
 cq 55 (.ldo 39 5 true (.t 54)),
 cq 9 (.alo 9 [ci 0,ci 0,ci 0,ci 0,ci 0]),
 cn (.sto 9 5 (.t 9) (.t 55))]
def c5_r9:CL:=[cq 56 (.fld 0 (.t 9)),
 cq 57 (.ldo 9 1 false (.t 56)),
 cq 58 (.bin .eql (.t 57) (ci 1))]
def c5_r10:CL:=[cq 59 (.fld 3 (.t 9)),
 cq 60 (.ldo 9 1 false (.t 59)),
 cm 61 1,
 cq 62 (.bin .add (.t 60) (.t 61)),
 cq 63 (.bin .rem (.t 62) (ci 100)),
 cq 64 (.fld 4 (.t 9)),
 cq 65 (.ldo 9 1 false (.t 64)),
 cm 66 1,
 cq 67 (.bin .add (.t 65) (.t 66)),
 cq 68 (.bin .rem (.t 67) (ci 100)),
 cq 69 (.fld 3 (.t 9)),
 cn (.sto 9 1 (.t 69) (.t 63)),
 cq 70 (.fld 4 (.t 9)),
 cn (.sto 9 1 (.t 70) (.t 68))]
def c5_r11:CL:=[cq 71 (.fld 0 (.t 9)),
 cq 72 (.ldo 9 1 false (.t 71)),
 cq 73 (.bin .eql (.t 72) (ci 1)),
 cm 74 73,
 cv 75 74 (.fld 0 (.t 9)),
 cv 76 74 (.ldo 9 1 false (.t 75)),
 cv 77 74 (.bin .eql (.t 76) (ci 2)),
 cq 78 (.pick (.t 74) (.bool true) (.t 77))]
def c5_r12:CL:=[cm 79 2,
 cq 80 (.fld 2 (.t 9)),
 cn (.sto 9 1 (.t 80) (.t 79))]
def c5_r13:CL:=[cq 81 (.fld 0 (.t 7)),
 cq 82 (.fld 0 (.t 81)),
 cq 83 (.ldo 7 1 false (.t 82)),
 cm 84 8,
 cq 85 (.ldo 9 5 true (.t 9)),
 cq 86 (.ixo 39 5 (.t 83) (.t 84)),
 cn (.sto 39 5 (.t 86) (.t 85))]
def c5_r7:CL:=[cm 48 8,
 cq 49 (.bin .add (.t 48) (ci 1)),
 cm 8 49]
def c5_b0:AC:=.seq (cs c5_r6 (.cond (.t 47) (.skip) (.exit 0))) (.seq (.block 1 (cs c5_r8 (.seq (cs c5_r9 (.cond (.t 58) (co c5_r10) (.skip))) (.seq (cs c5_r11 (.cond (.t 78) (co c5_r12) (.skip))) (co c5_r13))))) (co c5_r7))
def c5_r14:CL:=[cq 87 (.ldi 12 true (.t 7)),
 cq 88 (.call 13 [.t 87] []),
 cq 89 (.not (.t 88))]
def c5_r15:CL:=[cq 90 (.call 15 [] []),
 cm 6 90]
def c5_r16:CL:=[cq 92 (.ldi 12 true (.t 3)),
 cq 93 (.call 17 [.t 92] []),
 cm 91 93,
 cq 94 (.ext (.t 91) 0),
 cq 95 (.ext (.t 91) 1),
 cq 10 (.alo 10 [ci 0,ci 0]),
 cn (.sto 10 2 (.t 10) (.t 94)),
 cm 11 95]
def c5_r17:CL:=[cq 97 (.ldi 12 true (.t 7)),
 cq 98 (.call 17 [.t 97] []),
 cm 96 98,
 cq 99 (.ext (.t 96) 0),
 cq 100 (.ext (.t 96) 1),
 cq 12 (.alo 12 [ci 0,ci 0]),
 cn (.sto 12 2 (.t 12) (.t 99)),
 cm 13 100]
def c5_r18:CL:=[cq 102 (.ldi 12 true (.t 3)),
 cq 103 (.call 23 [.t 102] []),
 cm 101 103,
 cq 104 (.ext (.t 101) 0),
 cq 105 (.ext (.t 101) 1),
 cm 14 104,
 cm 15 105]
def c5_r19:CL:=[cq 107 (.ldi 12 true (.t 7)),
 cq 108 (.call 23 [.t 107] []),
 cm 106 108,
 cq 109 (.ext (.t 106) 0),
 cq 110 (.ext (.t 106) 1),
 cm 16 109,
 cm 17 110]
def c5_r20:CL:=[cm 111 11,
 cq 112 (.call 21 [.t 111] []),
 cq 113 (.not (.t 112)),
 cm 114 113,
 cx 115 114 15,
 cx 116 114 11,
 cv 117 114 (.bin .neq (.t 115) (.t 116)),
 cq 118 (.pick (.t 114) (.bool true) (.t 117)),
 cm 119 118,
 cx 120 119 13,
 cv 121 119 (.call 21 [.t 120] []),
 cv 122 119 (.not (.t 121)),
 cq 123 (.pick (.t 119) (.bool true) (.t 122)),
 cm 124 123,
 cx 125 124 17,
 cx 126 124 13,
 cv 127 124 (.bin .neq (.t 125) (.t 126)),
 cq 128 (.pick (.t 124) (.bool true) (.t 127))]
def c5_r21:CL:=[cq 6 (.mov (.bool false))]
def c5_r22:CL:=[cm 129 11,
 cq 130 (.bin .neq (.t 129) (ci 0)),
 cm 131 130,
 cx 132 131 13,
 cv 133 131 (.bin .eql (.t 132) (ci 0)),
 cx 134 131 133,
 cu 135 134 (.ldo 10 2 true (.t 10)),
 cu 136 134 (.ldo 12 2 true (.t 12)),
 cu 137 134 (.yy (.eqs false 2 (.t 135) (.t 136))),
 cv 138 131 (.pick (.t 134) (.t 137) (.bool false)),
 cx 139 131 138,
 cw 140 139 14,
 cw 141 139 16,
 cu 142 139 (.bin .eql (.t 140) (.t 141)),
 cv 143 131 (.pick (.t 139) (.t 142) (.bool false)),
 cq 144 (.pick (.t 131) (.bool true) (.t 143)),
 cm 145 144,
 cu 146 145 (.call 15 [] []),
 cq 147 (.pick (.t 145) (.t 146) (.bool false)),
 cm 6 147]
def c5:AFn:=⟨148,[.tmp 6],cs c5_r0 (.seq (cs c5_r1 (.cond (.t 36) (cs c5_r2 (.ret)) (.skip))) (cs c5_r3 (cs c5_r4 (.seq (cs c5_r5 (.block 0 (.loop c5_b0 [1,2,3,7,8] [7,39]))) (.seq (.seq (.fz [3,7] [] (co c5_r14)) (.cond (.t 89) (cs c5_r15 (.ret)) (.skip))) (cs c5_r16 (cs c5_r17 (cs c5_r18 (cs c5_r19 (.seq (cs c5_r20 (.cond (.t 128) (cs c5_r21 (.ret)) (.skip))) (cs c5_r22 (.ret))))))))))))⟩
def c6_r0:CL:=[cq 2 (.boxi (.t 0)),
 cq 4 (.mov (.bool false))]
def c6_r1:CL:=[cq 16 (.ldi 12 true (.t 2)),
 cq 17 (.call 13 [.t 16] []),
 cq 18 (.not (.t 17)),
 cm 19 18,
 cx 20 19 1,
 cv 21 19 (.bin .lss (.t 20) (ci 0)),
 cq 22 (.pick (.t 19) (.bool true) (.t 21)),
 cm 23 22,
 cx 24 23 1,
 cv 25 23 (.bin .gtr (.t 24) (ci 12)),
 cq 26 (.pick (.t 23) (.bool true) (.t 25)),
 cm 27 26,
 cv 28 27 (.fld 11 (.t 2)),
 cv 29 27 (.ldi 1 false (.t 28)),
 cx 30 27 1,
 cv 31 27 (.bin .add (.t 29) (.t 30)),
 cv 32 27 (.bin .gtr (.t 31) (ci 12)),
 cq 33 (.pick (.t 27) (.bool true) (.t 32))]
def c6_r2:CL:=[cq 34 (.call 15 [] []),
 cm 4 34]
def c6_r3:CL:=[cq 35 (.ldi 12 true (.t 2)),
 cq 36 (.call 16 [.t 35] []),
 cq 5 (.alo 5 [.nil 5,.nil 5,ci 0,.nil 3,ci 0,ci 0,ci 0,.nil 4,ci 0,.nil 3,ci 0,ci 0]),
 cn (.sto 5 12 (.t 5) (.t 36))]
def c6_r4:CL:=[cq 37 (.fld 11 (.t 5)),
 cq 38 (.ldo 5 1 false (.t 37)),
 cm 39 1,
 cq 40 (.bin .add (.t 38) (.t 39)),
 cq 41 (.fld 11 (.t 5)),
 cn (.sto 5 1 (.t 41) (.t 40))]
def c6_r5:CL:=[cq 43 (.ldi 12 true (.t 2)),
 cq 44 (.call 23 [.t 43] []),
 cm 42 44,
 cq 45 (.ext (.t 42) 0),
 cq 46 (.ext (.t 42) 1),
 cm 6 45,
 cm 7 46]
def c6_r6:CL:=[cq 48 (.ldo 5 12 true (.t 5)),
 cq 49 (.call 23 [.t 48] []),
 cm 47 49,
 cq 50 (.ext (.t 47) 0),
 cq 51 (.ext (.t 47) 1),
 cm 8 50,
 cm 9 51]
def c6_r7:CL:=[cq 53 (.ldi 12 true (.t 2)),
 cq 54 (.call 19 [.t 53] []),
 cm 52 54,
 cq 55 (.ext (.t 52) 0),
 cq 56 (.ext (.t 52) 1),
 cm 10 55,
 cm 11 56]
def c6_r8:CL:=[cq 58 (.ldo 5 12 true (.t 5)),
 cq 59 (.call 19 [.t 58] []),
 cm 57 59,
 cq 60 (.ext (.t 57) 0),
 cq 61 (.ext (.t 57) 1),
 cm 12 60,
 cm 13 61]
def c6_r9:CL:=[cm 62 7,
 cq 63 (.call 21 [.t 62] []),
 cq 64 (.not (.t 63)),
 cm 65 64,
 cx 66 65 9,
 cx 67 65 7,
 cv 68 65 (.bin .neq (.t 66) (.t 67)),
 cq 69 (.pick (.t 65) (.bool true) (.t 68)),
 cm 70 69,
 cx 71 70 11,
 cx 72 70 7,
 cv 73 70 (.bin .neq (.t 71) (.t 72)),
 cq 74 (.pick (.t 70) (.bool true) (.t 73)),
 cm 75 74,
 cx 76 75 13,
 cx 77 75 7,
 cv 78 75 (.bin .neq (.t 76) (.t 77)),
 cq 79 (.pick (.t 75) (.bool true) (.t 78))]
def c6_r10:CL:=[cq 4 (.mov (.bool false))]
def c6_r11:CL:=[cm 80 7,
 cq 81 (.bin .neq (.t 80) (ci 0))]
def c6_r12:CL:=[cq 82 (.call 15 [] []),
 cm 4 82]
def c6_r13:CL:=[cq 14 (.mov (ci 0))]
def c6_r14:CL:=[cq 15 (.mov (ci 0))]
def c6_r15:CL:=[cm 83 15,
 cq 84 (.fld 9 (.t 2)),
 cq 85 (.ldi 1 false (.t 84)),
 cq 86 (.len (.t 85)),
 cq 87 (.bin .lss (.t 83) (.t 86))]
def c6_r17:CL:=[cq 90 (.fld 9 (.t 2)),
 cq 91 (.ldi 1 false (.t 90)),
 cm 92 15,
 cq 93 (.ixi 3 (.t 91) (.t 92)),
 cq 94 (.fld 2 (.t 93)),
 cq 95 (.ldi 1 false (.t 94)),
 cq 96 (.bin .geq (.t 95) (ci 0))]
def c6_r18:CL:=[cm 97 14,
 cq 98 (.bin .add (.t 97) (ci 1)),
 cm 14 98]
def c6_r16:CL:=[cm 88 15,
 cq 89 (.bin .add (.t 88) (ci 1)),
 cm 15 89]
def c6_b0:AC:=.seq (cs c6_r15 (.cond (.t 87) (.skip) (.exit 0))) (.seq (.block 1 (cs c6_r17 (.cond (.t 96) (co c6_r18) (.skip)))) (co c6_r16))
def c6_r19:CL:=[cm 99 6,
 cq 100 (.bin .neq (.t 99) (ci 2)),
 cm 101 100,
 cx 102 101 8,
 cv 103 101 (.bin .eql (.t 102) (ci 2)),
 cq 104 (.pick (.t 101) (.bool true) (.t 103)),
 cm 105 104,
 cw 106 105 10,
 cu 107 105 (.bin .neq (.t 106) (ci 1)),
 cw 108 105 107,
 cx 109 108 12,
 cv 110 108 (.bin .eql (.t 109) (ci 1)),
 cu 111 105 (.pick (.t 108) (.bool true) (.t 110)),
 cq 112 (.pick (.t 105) (.t 111) (.bool false)),
 cm 113 112,
 cu 114 113 (.fld 11 (.t 2)),
 cu 115 113 (.ldi 1 false (.t 114)),
 cw 116 113 14,
 cu 117 113 (.bin .leq (.t 115) (.t 116)),
 cw 118 113 117,
 cx 119 118 6,
 cv 120 118 (.bin .eql (.t 119) (ci 2)),
 cu 121 113 (.pick (.t 118) (.bool true) (.t 120)),
 cq 122 (.pick (.t 113) (.t 121) (.bool false)),
 cm 123 122,
 cu 124 123 (.call 15 [] []),
 cq 125 (.pick (.t 123) (.t 124) (.bool false)),
 cm 4 125]
def c6:AFn:=⟨126,[.tmp 4],cs c6_r0 (.seq (cs c6_r1 (.cond (.t 33) (cs c6_r2 (.ret)) (.skip))) (cs c6_r3 (cs c6_r4 (cs c6_r5 (cs c6_r6 (cs c6_r7 (cs c6_r8 (.seq (cs c6_r9 (.cond (.t 79) (cs c6_r10 (.ret)) (.skip))) (.seq (cs c6_r11 (.cond (.t 81) (cs c6_r12 (.ret)) (.skip))) (cs c6_r13 (.seq (cs c6_r14 (.block 0 (.loop c6_b0 [2,6,8,10,12,14,15] []))) (cs c6_r19 (.ret)))))))))))))⟩
def c7_r0:CL:=[cq 2 (.boxi (.t 0)),
 cq 3 (.boxi (.t 1)),
 cq 4 (.mov (.bool false))]
def c7_r1:CL:=[cq 18 (.ldi 12 true (.t 2)),
 cq 19 (.call 24 [.t 18] [])]
def c7_r2:CL:=[cq 20 (.call 15 [] []),
 cm 4 20]
def c7_r3:CL:=[cq 21 (.ldi 12 true (.t 2)),
 cq 22 (.call 16 [.t 21] []),
 cq 5 (.alo 5 [.nil 5,.nil 5,ci 0,.nil 3,ci 0,ci 0,ci 0,.nil 4,ci 0,.nil 3,ci 0,ci 0]),
 cn (.sto 5 12 (.t 5) (.t 22))]
def c7_r4:CL:=[cq 23 (.ldo 5 12 true (.t 5)),
 cq 24 (.call 25 [.t 23] []),
 cq 25 (.ldi 12 true (.t 2)),
 cq 26 (.call 26 [.t 25] []),
 cq 27 (.bin .neq (.t 24) (.t 26))]
def c7_r5:CL:=[cq 4 (.mov (.bool false))]
def c7_r6:CL:=[cq 29 (.ldo 5 12 true (.t 5)),
 cq 30 (.call 27 [.t 29] []),
 cm 28 30,
 cq 31 (.ext (.t 28) 0),
 cq 32 (.ext (.t 28) 1),
 cm 6 31,
 cm 7 32]
def c7_r7:CL:=[cq 34 (.ldi 12 true (.t 2)),
 cq 35 (.call 28 [.t 34] []),
 cm 33 35,
 cq 36 (.ext (.t 33) 0),
 cq 37 (.ext (.t 33) 1),
 cm 8 36,
 cm 9 37]
def c7_r8:CL:=[cq 39 (.ldo 5 12 true (.t 5)),
 cq 40 (.fld 0 (.t 3)),
 cq 41 (.ldi 1 false (.t 40)),
 cq 42 (.call 29 [.t 39,.t 41] []),
 cm 38 42,
 cq 43 (.ext (.t 38) 0),
 cq 44 (.ext (.t 38) 1),
 cq 10 (.alo 10 [ci 0,ci 0]),
 cn (.sto 10 2 (.t 10) (.t 43)),
 cm 11 44]
def c7_r9:CL:=[cq 46 (.ldi 12 true (.t 2)),
 cq 47 (.fld 0 (.t 3)),
 cq 48 (.ldi 1 false (.t 47)),
 cq 49 (.call 30 [.t 46,.t 48] []),
 cm 45 49,
 cq 50 (.ext (.t 45) 0),
 cq 51 (.ext (.t 45) 1),
 cq 12 (.alo 12 [ci 0,ci 0]),
 cn (.sto 12 2 (.t 12) (.t 50)),
 cm 13 51]
def c7_r10:CL:=[cm 52 6,
 cm 53 8,
 cq 54 (.bin .neq (.t 52) (.t 53)),
 cm 55 54,
 cx 56 55 7,
 cx 57 55 9,
 cv 58 55 (.bin .neq (.t 56) (.t 57)),
 cq 59 (.pick (.t 55) (.bool true) (.t 58)),
 cm 60 59,
 cv 61 60 (.ldo 10 2 true (.t 10)),
 cv 62 60 (.ldo 12 2 true (.t 12)),
 cv 63 60 (.yy (.eqs true 2 (.t 61) (.t 62))),
 cq 64 (.pick (.t 60) (.bool true) (.t 63)),
 cm 65 64,
 cx 66 65 11,
 cx 67 65 13,
 cv 68 65 (.bin .neq (.t 66) (.t 67)),
 cq 69 (.pick (.t 65) (.bool true) (.t 68))]
def c7_r11:CL:=[cq 4 (.mov (.bool false))]
def c7_r12:CL:=[cq 71 (.ldo 5 12 true (.t 5)),
 cq 72 (.fld 0 (.t 3)),
 cq 73 (.ldi 1 false (.t 72)),
 cq 74 (.call 31 [.t 71,.t 73] []),
 cm 70 74,
 cq 75 (.ext (.t 70) 0),
 cq 76 (.ext (.t 70) 1),
 cm 14 75,
 cm 7 76]
def c7_r13:CL:=[cq 78 (.ldi 12 true (.t 2)),
 cq 79 (.fld 0 (.t 3)),
 cq 80 (.ldi 1 false (.t 79)),
 cq 81 (.call 32 [.t 78,.t 80] []),
 cm 77 81,
 cq 82 (.ext (.t 77) 0),
 cq 83 (.ext (.t 77) 1),
 cm 15 82,
 cm 9 83]
def c7_r14:CL:=[cq 85 (.ldo 5 12 true (.t 5)),
 cq 86 (.fld 1 (.t 3)),
 cq 87 (.ldi 1 false (.t 86)),
 cq 88 (.call 18 [.t 85,.t 87] []),
 cm 84 88,
 cq 89 (.ext (.t 84) 0),
 cq 90 (.ext (.t 84) 1),
 cm 16 89,
 cm 11 90]
def c7_r15:CL:=[cq 92 (.ldi 12 true (.t 2)),
 cq 93 (.fld 1 (.t 3)),
 cq 94 (.ldi 1 false (.t 93)),
 cq 95 (.call 33 [.t 92,.t 94] []),
 cm 91 95,
 cq 96 (.ext (.t 91) 0),
 cq 97 (.ext (.t 91) 1),
 cm 17 96,
 cm 13 97]
def c7_r16:CL:=[cm 98 14,
 cm 99 15,
 cq 100 (.call 34 [.t 98,.t 99] []),
 cm 101 100,
 cw 102 101 7,
 cw 103 101 9,
 cu 104 101 (.bin .eql (.t 102) (.t 103)),
 cq 105 (.pick (.t 101) (.t 104) (.bool false)),
 cm 106 105,
 cw 107 106 16,
 cw 108 106 17,
 cu 109 106 (.bin .eql (.t 107) (.t 108)),
 cq 110 (.pick (.t 106) (.t 109) (.bool false)),
 cm 111 110,
 cw 112 111 11,
 cw 113 111 13,
 cu 114 111 (.bin .eql (.t 112) (.t 113)),
 cq 115 (.pick (.t 111) (.t 114) (.bool false)),
 cm 116 115,
 cu 117 116 (.ldo 5 12 true (.t 5)),
 cu 118 116 (.ldi 12 true (.t 2)),
 cu 119 116 (.call 35 [.t 117,.t 118] []),
 cq 120 (.pick (.t 116) (.t 119) (.bool false)),
 cm 121 120,
 cu 122 121 (.call 15 [] []),
 cq 123 (.pick (.t 121) (.t 122) (.bool false)),
 cm 4 123]
def c7:AFn:=⟨124,[.tmp 4],cs c7_r0 (.seq (cs c7_r1 (.cond (.t 19) (cs c7_r2 (.ret)) (.skip))) (cs c7_r3 (.seq (.seq (.ops c7_r4 true) (.cond (.t 27) (cs c7_r5 (.ret)) (.skip))) (cs c7_r6 (cs c7_r7 (cs c7_r8 (cs c7_r9 (.seq (cs c7_r10 (.cond (.t 69) (cs c7_r11 (.ret)) (.skip))) (cs c7_r12 (cs c7_r13 (cs c7_r14 (cs c7_r15 (cs c7_r16 (.ret))))))))))))))⟩
def c8_r0:CL:=[cq 1 (.boxi (.t 0)),
 cq 2 (.mov (.bool false))]
def c8_r1:CL:=[cq 16 (.ldi 12 true (.t 1)),
 cq 17 (.call 24 [.t 16] [])]
def c8_r2:CL:=[cq 18 (.call 15 [] []),
 cm 2 18]
def c8_r3:CL:=[cq 19 (.ldi 12 true (.t 1)),
 cq 20 (.call 16 [.t 19] []),
 cq 3 (.alo 3 [.nil 5,.nil 5,ci 0,.nil 3,ci 0,ci 0,ci 0,.nil 4,ci 0,.nil 3,ci 0,ci 0]),
 cn (.sto 3 12 (.t 3) (.t 20))]
def c8_r4:CL:=[cq 22 (.ldo 3 12 true (.t 3)),
 cq 23 (.call 17 [.t 22] []),
 cm 21 23,
 cq 24 (.ext (.t 21) 0),
 cq 25 (.ext (.t 21) 1),
 cq 4 (.alo 4 [ci 0,ci 0]),
 cn (.sto 4 2 (.t 4) (.t 24)),
 cm 5 25]
def c8_r5:CL:=[cq 27 (.ldi 12 true (.t 1)),
 cq 28 (.call 36 [.t 27] []),
 cm 26 28,
 cq 29 (.ext (.t 26) 0),
 cq 30 (.ext (.t 26) 1),
 cq 6 (.alo 6 [ci 0,ci 0]),
 cn (.sto 6 2 (.t 6) (.t 29)),
 cm 7 30]
def c8_r6:CL:=[cq 32 (.ldo 3 12 true (.t 3)),
 cq 33 (.call 23 [.t 32] []),
 cm 31 33,
 cq 34 (.ext (.t 31) 0),
 cq 35 (.ext (.t 31) 1),
 cm 8 34,
 cm 9 35]
def c8_r7:CL:=[cq 37 (.ldi 12 true (.t 1)),
 cq 38 (.call 37 [.t 37] []),
 cm 36 38,
 cq 39 (.ext (.t 36) 0),
 cq 40 (.ext (.t 36) 1),
 cm 10 39,
 cm 11 40]
def c8_r8:CL:=[cq 42 (.ldo 3 12 true (.t 3)),
 cq 43 (.call 38 [.t 42] []),
 cm 41 43,
 cq 44 (.ext (.t 41) 0),
 cq 45 (.ext (.t 41) 1),
 cm 12 44,
 cm 13 45]
def c8_r9:CL:=[cq 47 (.ldi 12 true (.t 1)),
 cq 48 (.call 39 [.t 47] []),
 cm 46 48,
 cq 49 (.ext (.t 46) 0),
 cq 50 (.ext (.t 46) 1),
 cm 14 49,
 cm 15 50]
def c8_r10:CL:=[cq 51 (.ldo 4 2 true (.t 4)),
 cq 52 (.ldo 6 2 true (.t 6)),
 cq 53 (.yy (.eqs false 2 (.t 51) (.t 52))),
 cm 54 53,
 cw 55 54 5,
 cw 56 54 7,
 cu 57 54 (.bin .eql (.t 55) (.t 56)),
 cq 58 (.pick (.t 54) (.t 57) (.bool false)),
 cm 59 58,
 cw 60 59 8,
 cw 61 59 10,
 cu 62 59 (.bin .eql (.t 60) (.t 61)),
 cq 63 (.pick (.t 59) (.t 62) (.bool false)),
 cm 64 63,
 cw 65 64 9,
 cw 66 64 11,
 cu 67 64 (.bin .eql (.t 65) (.t 66)),
 cq 68 (.pick (.t 64) (.t 67) (.bool false)),
 cm 69 68,
 cw 70 69 12,
 cw 71 69 14,
 cu 72 69 (.call 34 [.t 70,.t 71] []),
 cq 73 (.pick (.t 69) (.t 72) (.bool false)),
 cm 74 73,
 cw 75 74 13,
 cw 76 74 15,
 cu 77 74 (.bin .eql (.t 75) (.t 76)),
 cq 78 (.pick (.t 74) (.t 77) (.bool false)),
 cm 79 78,
 cu 80 79 (.ldo 3 12 true (.t 3)),
 cu 81 79 (.ldi 12 true (.t 1)),
 cu 82 79 (.call 35 [.t 80,.t 81] []),
 cq 83 (.pick (.t 79) (.t 82) (.bool false)),
 cm 84 83,
 cu 85 84 (.call 15 [] []),
 cq 86 (.pick (.t 84) (.t 85) (.bool false)),
 cm 2 86]
def c8:AFn:=⟨87,[.tmp 2],cs c8_r0 (.seq (cs c8_r1 (.cond (.t 17) (cs c8_r2 (.ret)) (.skip))) (cs c8_r3 (cs c8_r4 (cs c8_r5 (cs c8_r6 (cs c8_r7 (cs c8_r8 (cs c8_r9 (cs c8_r10 (.ret))))))))))⟩
def c9_r0:CL:=[cq 1 (.boxi (.t 0)),
 cq 2 (.mov (.bool false))]
def c9_r1:CL:=[cq 16 (.ldi 12 true (.t 1)),
 cq 17 (.call 24 [.t 16] [])]
def c9_r2:CL:=[cq 18 (.call 15 [] []),
 cm 2 18]
def c9_r3:CL:=[cq 19 (.ldi 12 true (.t 1)),
 cq 20 (.call 16 [.t 19] []),
 cq 3 (.alo 3 [.nil 5,.nil 5,ci 0,.nil 3,ci 0,ci 0,ci 0,.nil 4,ci 0,.nil 3,ci 0,ci 0]),
 cn (.sto 3 12 (.t 3) (.t 20))]
def c9_r4:CL:=[cq 22 (.ldo 3 12 true (.t 3)),
 cq 23 (.call 40 [.t 22] []),
 cm 21 23,
 cq 24 (.ext (.t 21) 0),
 cq 25 (.ext (.t 21) 1),
 cm 4 24,
 cm 5 25]
def c9_r5:CL:=[cq 27 (.ldi 12 true (.t 1)),
 cq 28 (.call 41 [.t 27] []),
 cm 26 28,
 cq 29 (.ext (.t 26) 0),
 cq 30 (.ext (.t 26) 1),
 cm 6 29,
 cm 7 30]
def c9_r6:CL:=[cq 32 (.ldo 3 12 true (.t 3)),
 cq 33 (.call 19 [.t 32] []),
 cm 31 33,
 cq 34 (.ext (.t 31) 0),
 cq 35 (.ext (.t 31) 1),
 cm 8 34,
 cm 9 35]
def c9_r7:CL:=[cq 37 (.ldi 12 true (.t 1)),
 cq 38 (.call 42 [.t 37] []),
 cm 36 38,
 cq 39 (.ext (.t 36) 0),
 cq 40 (.ext (.t 36) 1),
 cm 10 39,
 cm 11 40]
def c9_r8:CL:=[cm 41 4,
 cm 42 6,
 cq 43 (.call 34 [.t 41,.t 42] []),
 cq 44 (.not (.t 43)),
 cm 45 44,
 cx 46 45 5,
 cx 47 45 7,
 cv 48 45 (.bin .neq (.t 46) (.t 47)),
 cq 49 (.pick (.t 45) (.bool true) (.t 48)),
 cm 50 49,
 cx 51 50 8,
 cx 52 50 10,
 cv 53 50 (.bin .neq (.t 51) (.t 52)),
 cq 54 (.pick (.t 50) (.bool true) (.t 53)),
 cm 55 54,
 cx 56 55 9,
 cx 57 55 11,
 cv 58 55 (.bin .neq (.t 56) (.t 57)),
 cq 59 (.pick (.t 55) (.bool true) (.t 58))]
def c9_r9:CL:=[cq 2 (.mov (.bool false))]
def c9_r10:CL:=[cq 61 (.ldo 3 12 true (.t 3)),
 cq 62 (.call 20 [.t 61] []),
 cm 60 62,
 cq 63 (.ext (.t 60) 0),
 cq 64 (.ext (.t 60) 1),
 cm 12 63,
 cm 5 64]
def c9_r11:CL:=[cq 66 (.ldi 12 true (.t 1)),
 cq 67 (.call 43 [.t 66] []),
 cm 65 67,
 cq 68 (.ext (.t 65) 0),
 cq 69 (.ext (.t 65) 1),
 cm 13 68,
 cm 7 69]
def c9_r12:CL:=[cq 71 (.ldo 3 12 true (.t 3)),
 cq 72 (.call 44 [.t 71] []),
 cm 70 72,
 cq 73 (.ext (.t 70) 0),
 cq 74 (.ext (.t 70) 1),
 cm 14 73,
 cm 9 74]
def c9_r13:CL:=[cq 76 (.ldi 12 true (.t 1)),
 cq 77 (.call 45 [.t 76] []),
 cm 75 77,
 cq 78 (.ext (.t 75) 0),
 cq 79 (.ext (.t 75) 1),
 cm 15 78,
 cm 11 79]
def c9_r14:CL:=[cm 80 12,
 cm 81 13,
 cq 82 (.bin .eql (.t 80) (.t 81)),
 cm 83 82,
 cw 84 83 5,
 cw 85 83 7,
 cu 86 83 (.bin .eql (.t 84) (.t 85)),
 cq 87 (.pick (.t 83) (.t 86) (.bool false)),
 cm 88 87,
 cw 89 88 14,
 cw 90 88 15,
 cu 91 88 (.bin .eql (.t 89) (.t 90)),
 cq 92 (.pick (.t 88) (.t 91) (.bool false)),
 cm 93 92,
 cw 94 93 9,
 cw 95 93 11,
 cu 96 93 (.bin .eql (.t 94) (.t 95)),
 cq 97 (.pick (.t 93) (.t 96) (.bool false)),
 cm 98 97,
 cu 99 98 (.ldo 3 12 true (.t 3)),
 cu 100 98 (.ldi 12 true (.t 1)),
 cu 101 98 (.call 35 [.t 99,.t 100] []),
 cq 102 (.pick (.t 98) (.t 101) (.bool false)),
 cm 103 102,
 cu 104 103 (.call 15 [] []),
 cq 105 (.pick (.t 103) (.t 104) (.bool false)),
 cm 2 105]
def c9:AFn:=⟨106,[.tmp 2],cs c9_r0 (.seq (cs c9_r1 (.cond (.t 17) (cs c9_r2 (.ret)) (.skip))) (cs c9_r3 (cs c9_r4 (cs c9_r5 (cs c9_r6 (cs c9_r7 (.seq (cs c9_r8 (.cond (.t 59) (cs c9_r9 (.ret)) (.skip))) (cs c9_r10 (cs c9_r11 (cs c9_r12 (cs c9_r13 (cs c9_r14 (.ret)))))))))))))⟩
def c10_r0:CL:=[cq 1 (.boxi (.t 0)),
 cq 2 (.mov (.bool false))]
def c10_r1:CL:=[cq 16 (.ldi 12 true (.t 1)),
 cq 17 (.call 13 [.t 16] []),
 cq 18 (.not (.t 17)),
 cm 19 18,
 cv 20 19 (.fld 0 (.t 1)),
 cv 21 19 (.fld 0 (.t 20)),
 cv 22 19 (.ldi 1 false (.t 21)),
 cv 23 19 (.len (.t 22)),
 cv 24 19 (.bin .geq (.t 23) (ci 12)),
 cq 25 (.pick (.t 19) (.bool true) (.t 24))]
def c10_r2:CL:=[cq 26 (.call 15 [] []),
 cm 2 26]
def c10_r3:CL:=[cq 28 (.ldi 12 true (.t 1)),
 cq 29 (.call 44 [.t 28] []),
 cm 27 29,
 cq 30 (.ext (.t 27) 0),
 cq 31 (.ext (.t 27) 1),
 cm 3 30,
 cm 4 31]
def c10_r4:CL:=[cm 32 4,
 cq 33 (.bin .neq (.t 32) (ci 0))]
def c10_r5:CL:=[cm 34 4,
 cq 35 (.call 21 [.t 34] []),
 cm 36 35,
 cu 37 36 (.call 15 [] []),
 cq 38 (.pick (.t 36) (.t 37) (.bool false)),
 cm 2 38]
def c10_r6:CL:=[cm 39 3,
 cq 40 (.bin .lss (.t 39) (ci 0)),
 cm 41 40,
 cx 42 41 3,
 cv 43 41 (.bin .gtr (.t 42) (ci 9999)),
 cq 44 (.pick (.t 41) (.bool true) (.t 43))]
def c10_r7:CL:=[cq 2 (.mov (.bool false))]
def c10_r8:CL:=[cq 45 (.ldi 12 true (.t 1)),
 cq 46 (.callh 16 [.t 45] [47000,47009]),
 cq 5 (.alo 5 [.nil 5,.nil 5,ci 0,.nil 3,ci 0,ci 0,ci 0,.nil 4,ci 0,.nil 3,ci 0,ci 0]),
 cn (.sto 5 12 (.t 5) (.t 46))]
def c10_r9:CL:=[cq 47 (.fld 0 (.t 5)),
 cq 48 (.fld 0 (.t 47)),
 cq 49 (.ldo 5 1 false (.t 48)),
 cq 50 (.bld [ci 0,ci 0,ci 0,ci 0,ci 0] [(0,1,ci 4)]),
 cq 51 (.bsl 5 [.t 50]),
 cq 52 (.app 47000 56 5 40 (.t 49) (.t 51)),
 cq 53 (.fld 0 (.t 5)),
 cq 54 (.fld 0 (.t 53)),
 cn (.sto 5 1 (.t 54) (.t 52))]
def c10_r10:CL:=[cq 55 (.fld 9 (.t 5)),
 cq 56 (.ldo 5 1 false (.t 55)),
 cm 57 3,
 cq 58 (.bld [ci 0,ci 0,ci 0] [(0,1,.t 57),(2,1,.int .i64 (-1))]),
 cq 59 (.bsl 3 [.t 58]),
 cq 60 (.app 47009 58 3 24 (.t 56) (.t 59)),
 cq 61 (.fld 9 (.t 5)),
 cn (.sto 5 1 (.t 61) (.t 60))]
def c10_r11:CL:=[cq 63 (.ldi 12 true (.t 5)),
 cq 64 (.call 40 [.t 63] []),
 cm 62 64,
 cq 65 (.ext (.t 62) 0),
 cq 66 (.ext (.t 62) 1),
 cm 6 65,
 cm 7 66]
def c10_r12:CL:=[cq 68 (.ldi 12 true (.t 1)),
 cq 69 (.call 23 [.t 68] []),
 cm 67 69,
 cq 70 (.ext (.t 67) 0),
 cq 71 (.ext (.t 67) 1),
 cm 8 70,
 cm 9 71]
def c10_r13:CL:=[cq 73 (.ldi 12 true (.t 5)),
 cq 74 (.call 19 [.t 73] []),
 cm 72 74,
 cq 75 (.ext (.t 72) 0),
 cq 76 (.ext (.t 72) 1),
 cm 10 75,
 cm 11 76]
def c10_r14:CL:=[cq 78 (.ldi 12 true (.t 1)),
 cq 79 (.call 17 [.t 78] []),
 cm 77 79,
 cq 80 (.ext (.t 77) 0),
 cq 81 (.ext (.t 77) 1),
 cq 12 (.alo 12 [ci 0,ci 0]),
 cn (.sto 12 2 (.t 12) (.t 80)),
 cm 13 81]
def c10_r15:CL:=[cq 83 (.ldi 12 true (.t 5)),
 cq 84 (.call 17 [.t 83] []),
 cm 82 84,
 cq 85 (.ext (.t 82) 0),
 cq 86 (.ext (.t 82) 1),
 cq 14 (.alo 14 [ci 0,ci 0]),
 cn (.sto 14 2 (.t 14) (.t 85)),
 cm 15 86]
def c10_r16:CL:=[cm 87 7,
 cq 88 (.bin .eql (.t 87) (ci 0)),
 cm 89 88,
 cw 90 89 9,
 cu 91 89 (.bin .eql (.t 90) (ci 0)),
 cq 92 (.pick (.t 89) (.t 91) (.bool false)),
 cm 93 92,
 cw 94 93 11,
 cu 95 93 (.bin .eql (.t 94) (ci 0)),
 cq 96 (.pick (.t 93) (.t 95) (.bool false)),
 cm 97 96,
 cw 98 97 13,
 cu 99 97 (.bin .eql (.t 98) (ci 0)),
 cq 100 (.pick (.t 97) (.t 99) (.bool false)),
 cm 101 100,
 cw 102 101 15,
 cu 103 101 (.bin .eql (.t 102) (ci 0)),
 cq 104 (.pick (.t 101) (.t 103) (.bool false)),
 cm 105 104,
 cw 106 105 6,
 cu 107 105 (.len (.t 106)),
 cu 108 105 (.bin .eql (.t 107) (ci 0)),
 cq 109 (.pick (.t 105) (.t 108) (.bool false)),
 cm 110 109,
 cw 111 110 8,
 cu 112 110 (.bin .eql (.t 111) (ci 2)),
 cw 113 110 10,
 cu 114 110 (.bin .eql (.t 113) (ci 1)),
 cu 115 110 (.beq false (.t 112) (.t 114)),
 cq 116 (.pick (.t 110) (.t 115) (.bool false)),
 cm 117 116,
 cu 118 117 (.ldo 12 2 true (.t 12)),
 cu 119 117 (.ldo 14 2 true (.t 14)),
 cu 120 117 (.yy (.eqs false 2 (.t 118) (.t 119))),
 cq 121 (.pick (.t 117) (.t 120) (.bool false)),
 cm 122 121,
 cu 123 122 (.call 15 [] []),
 cq 124 (.pick (.t 122) (.t 123) (.bool false)),
 cm 2 124]
def c10:AFn:=⟨125,[.tmp 2],cs c10_r0 (.seq (cs c10_r1 (.cond (.t 25) (cs c10_r2 (.ret)) (.skip))) (cs c10_r3 (.seq (cs c10_r4 (.cond (.t 33) (cs c10_r5 (.ret)) (.skip))) (.seq (cs c10_r6 (.cond (.t 44) (cs c10_r7 (.ret)) (.skip))) (cs c10_r8 (cs c10_r9 (cs c10_r10 (.seq (.fz [1,5] [] (co c10_r11)) (cs c10_r12 (cs c10_r13 (cs c10_r14 (cs c10_r15 (cs c10_r16 (.ret))))))))))))))⟩
def c11_r0:CL:=[cq 3 (.boxi (.t 0)),
 cq 4 (.boxi (.t 1)),
 cq 5 (.boxi (.t 2)),
 cq 6 (.mov (.bool false))]
def c11_r1:CL:=[cq 27 (.ldi 12 true (.t 3)),
 cq 28 (.call 13 [.t 27] []),
 cq 29 (.not (.t 28)),
 cm 30 29,
 cv 31 30 (.fld 0 (.t 4)),
 cv 32 30 (.ldi 1 false (.t 31)),
 cv 33 30 (.len (.t 32)),
 cv 34 30 (.bin .gtr (.t 33) (ci 40)),
 cq 35 (.pick (.t 30) (.bool true) (.t 34)),
 cm 36 35,
 cv 37 36 (.fld 1 (.t 4)),
 cv 38 36 (.fld 0 (.t 37)),
 cv 39 36 (.ldi 1 false (.t 38)),
 cv 40 36 (.len (.t 39)),
 cv 41 36 (.bin .gtr (.t 40) (ci 40)),
 cq 42 (.pick (.t 36) (.bool true) (.t 41)),
 cm 43 42,
 cv 44 43 (.ldi 12 true (.t 3)),
 cv 45 43 (.ldi 3 true (.t 4)),
 cv 46 43 (.call 46 [.t 44,.t 45] []),
 cv 47 43 (.not (.t 46)),
 cq 48 (.pick (.t 43) (.bool true) (.t 47))]
def c11_r2:CL:=[cq 49 (.call 15 [] []),
 cm 6 49]
def c11_r3:CL:=[cq 51 (.ldi 12 true (.t 3)),
 cq 52 (.call 17 [.t 51] []),
 cm 50 52,
 cq 53 (.ext (.t 50) 0),
 cq 54 (.ext (.t 50) 1),
 cq 7 (.alo 7 [ci 0,ci 0]),
 cn (.sto 7 2 (.t 7) (.t 53)),
 cm 8 54]
def c11_r4:CL:=[cq 56 (.ldi 12 true (.t 3)),
 cq 57 (.call 23 [.t 56] []),
 cm 55 57,
 cq 58 (.ext (.t 55) 0),
 cq 59 (.ext (.t 55) 1),
 cm 9 58,
 cm 10 59]
def c11_r5:CL:=[cq 61 (.ldi 12 true (.t 3)),
 cq 62 (.call 19 [.t 61] []),
 cm 60 62,
 cq 63 (.ext (.t 60) 0),
 cq 64 (.ext (.t 60) 1),
 cm 11 63,
 cm 12 64]
def c11_r6:CL:=[cq 66 (.ldi 12 true (.t 3)),
 cq 67 (.call 40 [.t 66] []),
 cm 65 67,
 cq 68 (.ext (.t 65) 0),
 cq 69 (.ext (.t 65) 1),
 cm 13 68,
 cm 14 69]
def c11_r7:CL:=[cq 70 (.ldi 12 true (.t 3)),
 cq 71 (.ldi 3 true (.t 4)),
 cq 72 (.call 47 [.t 70,.t 71] []),
 cm 15 72]
def c11_r8:CL:=[cm 73 8,
 cq 74 (.bin .neq (.t 73) (ci 0)),
 cm 75 74,
 cx 76 75 10,
 cv 77 75 (.bin .neq (.t 76) (ci 0)),
 cq 78 (.pick (.t 75) (.bool true) (.t 77)),
 cm 79 78,
 cx 80 79 12,
 cv 81 79 (.bin .neq (.t 80) (ci 0)),
 cq 82 (.pick (.t 79) (.bool true) (.t 81)),
 cm 83 82,
 cx 84 83 14,
 cv 85 83 (.bin .neq (.t 84) (ci 0)),
 cq 86 (.pick (.t 83) (.bool true) (.t 85)),
 cm 87 86,
 cx 88 87 13,
 cv 89 87 (.len (.t 88)),
 cv 90 87 (.bin .gtr (.t 89) (ci 40)),
 cq 91 (.pick (.t 87) (.bool true) (.t 90)),
 cm 92 91,
 cx 93 92 15,
 cv 94 92 (.fld 0 (.t 7)),
 cv 95 92 (.ldo 7 1 false (.t 94)),
 cv 96 92 (.bin .lss (.t 93) (.t 95)),
 cq 97 (.pick (.t 92) (.bool true) (.t 96)),
 cm 98 97,
 cx 99 98 15,
 cv 100 98 (.fld 1 (.t 7)),
 cv 101 98 (.ldo 7 1 false (.t 100)),
 cv 102 98 (.bin .gtr (.t 99) (.t 101)),
 cq 103 (.pick (.t 98) (.bool true) (.t 102)),
 cm 104 103,
 cx 105 104 9,
 cx 106 104 15,
 cv 107 104 (.fld 11 (.t 3)),
 cv 108 104 (.ldi 1 false (.t 107)),
 cv 109 104 (.bin .geq (.t 106) (.t 108)),
 cv 110 104 (.call 48 [.t 105,.t 109] []),
 cv 111 104 (.not (.t 110)),
 cq 112 (.pick (.t 104) (.bool true) (.t 111)),
 cm 113 112,
 cx 114 113 11,
 cv 115 113 (.ldi 12 true (.t 3)),
 cv 116 113 (.ldi 3 true (.t 4)),
 cv 117 113 (.call 49 [.t 115,.t 116] []),
 cv 118 113 (.call 48 [.t 114,.t 117] []),
 cv 119 113 (.not (.t 118)),
 cq 120 (.pick (.t 113) (.bool true) (.t 119))]
def c11_r9:CL:=[cq 6 (.mov (.bool false))]
def c11_r10:CL:=[cq 121 (.fld 0 (.t 3)),
 cq 122 (.ldi 3 true (.t 121)),
 cq 123 (.fld 0 (.t 4)),
 cq 124 (.ldi 1 false (.t 123)),
 cq 125 (.call 50 [.t 122,.t 124] []),
 cm 16 125]
def c11_r11:CL:=[cq 17 (.mov (ci 0))]
def c11_r12:CL:=[cm 126 17,
 cm 127 16,
 cq 128 (.len (.t 127)),
 cq 129 (.bin .lss (.t 126) (.t 128))]
def c11_r14:CL:=[cq 132 (.ldi 12 true (.t 3)),
 cm 133 16,
 cm 134 17,
 cq 135 (.ixi 1 (.t 133) (.t 134)),
 cq 136 (.ldi 1 false (.t 135)),
 cq 137 (.ldi 3 true (.t 4)),
 cq 138 (.call 51 [.t 132,.t 136,.t 137] []),
 cq 139 (.not (.t 138)),
 cm 140 139,
 cw 141 140 13,
 cw 142 140 17,
 cu 143 140 (.call 52 [.t 141,.t 142] []),
 cu 144 140 (.not (.t 143)),
 cq 145 (.pick (.t 140) (.t 144) (.bool false))]
def c11_r15:CL:=[cq 6 (.mov (.bool false))]
def c11_r13:CL:=[cm 130 17,
 cq 131 (.bin .add (.t 130) (ci 1)),
 cm 17 131]
def c11_b0:AC:=.seq (cs c11_r12 (.cond (.t 129) (.skip) (.exit 0))) (.seq (.block 1 (.seq (.ops c11_r14 true) (.cond (.t 145) (cs c11_r15 (.ret)) (.skip)))) (co c11_r13))
def c11_r16:CL:=[cq 146 (.fld 0 (.t 3)),
 cq 147 (.ldi 3 true (.t 146)),
 cq 148 (.fld 1 (.t 5)),
 cq 149 (.ldi 1 false (.t 148)),
 cq 150 (.call 14 [.t 147,.t 149] [])]
def c11_r17:CL:=[cq 152 (.ldi 12 true (.t 3)),
 cq 153 (.fld 1 (.t 5)),
 cq 154 (.ldi 1 false (.t 153)),
 cq 155 (.call 18 [.t 152,.t 154] []),
 cm 151 155,
 cq 156 (.ext (.t 151) 0),
 cq 157 (.ext (.t 151) 1),
 cm 18 156,
 cm 19 157]
def c11_r18:CL:=[cm 158 19,
 cq 159 (.bin .neq (.t 158) (ci 0)),
 cm 160 159,
 cx 161 160 18,
 cv 162 160 (.ldi 12 true (.t 3)),
 cv 163 160 (.fld 1 (.t 5)),
 cv 164 160 (.ldi 1 false (.t 163)),
 cv 165 160 (.ldi 3 true (.t 4)),
 cv 166 160 (.call 51 [.t 162,.t 164,.t 165] []),
 cv 167 160 (.call 48 [.t 161,.t 166] []),
 cv 168 160 (.not (.t 167)),
 cq 169 (.pick (.t 160) (.bool true) (.t 168))]
def c11_r19:CL:=[cq 6 (.mov (.bool false))]
def c11_r20:CL:=[cq 170 (.ldi 12 true (.t 3)),
 cq 171 (.fld 0 (.t 5)),
 cq 172 (.ldi 1 false (.t 171)),
 cq 173 (.call 53 [.t 170,.t 172] []),
 cq 174 (.not (.t 173))]
def c11_r21:CL:=[cq 175 (.call 15 [] []),
 cm 6 175]
def c11_r22:CL:=[cq 177 (.ldi 12 true (.t 3)),
 cq 178 (.fld 0 (.t 5)),
 cq 179 (.ldi 1 false (.t 178)),
 cq 180 (.call 31 [.t 177,.t 179] []),
 cm 176 180,
 cq 181 (.ext (.t 176) 0),
 cq 182 (.ext (.t 176) 1),
 cm 20 181,
 cm 21 182]
def c11_r23:CL:=[cq 184 (.ldi 12 true (.t 3)),
 cq 185 (.fld 0 (.t 5)),
 cq 186 (.ldi 1 false (.t 185)),
 cq 187 (.call 29 [.t 184,.t 186] []),
 cm 183 187,
 cq 188 (.ext (.t 183) 0),
 cq 189 (.ext (.t 183) 1),
 cq 22 (.alo 22 [ci 0,ci 0]),
 cn (.sto 22 2 (.t 22) (.t 188)),
 cm 23 189]
def c11_r24:CL:=[cq 190 (.ldi 12 true (.t 3)),
 cq 191 (.fld 0 (.t 5)),
 cq 192 (.ldi 1 false (.t 191)),
 cq 193 (.fld 0 (.t 4)),
 cq 194 (.ldi 1 false (.t 193)),
 cq 195 (.call 54 [.t 190,.t 192,.t 194] []),
 cm 24 195]
def c11_r25:CL:=[cm 196 21,
 cq 197 (.bin .neq (.t 196) (ci 0)),
 cm 198 197,
 cx 199 198 23,
 cv 200 198 (.bin .neq (.t 199) (ci 0)),
 cq 201 (.pick (.t 198) (.bool true) (.t 200)),
 cm 202 201,
 cx 203 202 20,
 cv 204 202 (.len (.t 203)),
 cv 205 202 (.bin .gtr (.t 204) (ci 40)),
 cq 206 (.pick (.t 202) (.bool true) (.t 205)),
 cm 207 206,
 cx 208 207 24,
 cv 209 207 (.bin .geq (.t 208) (ci 0)),
 cx 210 207 20,
 cv 211 207 (.len (.t 210)),
 cv 212 207 (.bin .gtr (.t 211) (ci 0)),
 cv 213 207 (.beq true (.t 209) (.t 212)),
 cq 214 (.pick (.t 207) (.bool true) (.t 213)),
 cm 215 214,
 cx 216 215 24,
 cv 217 215 (.bin .geq (.t 216) (ci 0)),
 cx 218 215 217,
 cw 219 218 20,
 cw 220 218 24,
 cu 221 218 (.call 52 [.t 219,.t 220] []),
 cu 222 218 (.not (.t 221)),
 cv 223 215 (.pick (.t 218) (.t 222) (.bool false)),
 cq 224 (.pick (.t 215) (.bool true) (.t 223))]
def c11_r26:CL:=[cq 6 (.mov (.bool false))]
def c11_r27:CL:=[cq 226 (.ldi 12 true (.t 3)),
 cq 227 (.fld 0 (.t 5)),
 cq 228 (.ldi 1 false (.t 227)),
 cq 229 (.ldi 3 true (.t 4)),
 cq 230 (.call 55 [.t 226,.t 228,.t 229] []),
 cm 225 230,
 cq 231 (.ext (.t 225) 0),
 cq 232 (.ext (.t 225) 1),
 cm 25 231,
 cm 26 232]
def c11_r28:CL:=[cq 233 (.fld 0 (.t 22)),
 cq 234 (.ldo 22 1 false (.t 233)),
 cq 235 (.bin .geq (.t 234) (ci 0)),
 cm 236 235,
 cu 237 236 (.fld 1 (.t 22)),
 cu 238 236 (.ldo 22 1 false (.t 237)),
 cu 239 236 (.bin .lss (.t 238) (ci 107374182400000)),
 cq 240 (.pick (.t 236) (.t 239) (.bool false)),
 cm 241 240,
 cu 242 241 (.fld 0 (.t 22)),
 cu 243 241 (.ldo 22 1 false (.t 242)),
 cw 244 241 25,
 cw 245 241 26,
 cu 246 241 (.bin .quo (.t 244) (.t 245)),
 cu 247 241 (.bin .leq (.t 243) (.t 246)),
 cq 248 (.pick (.t 241) (.t 247) (.bool false)),
 cm 249 248,
 cu 250 249 (.fld 1 (.t 22)),
 cu 251 249 (.ldo 22 1 false (.t 250)),
 cw 252 249 25,
 cw 253 249 26,
 cu 254 249 (.bin .quo (.t 252) (.t 253)),
 cu 255 249 (.bin .geq (.t 251) (.t 254)),
 cq 256 (.pick (.t 249) (.t 255) (.bool false)),
 cm 257 256,
 cu 258 257 (.fld 1 (.t 22)),
 cu 259 257 (.ldo 22 1 false (.t 258)),
 cw 260 257 25,
 cw 261 257 26,
 cu 262 257 (.bin .quo (.t 260) (.t 261)),
 cu 263 257 (.bin .gtr (.t 259) (.t 262)),
 cw 264 257 263,
 cx 265 264 25,
 cx 266 264 26,
 cv 267 264 (.bin .rem (.t 265) (.t 266)),
 cv 268 264 (.bin .eql (.t 267) (ci 0)),
 cu 269 257 (.pick (.t 264) (.bool true) (.t 268)),
 cq 270 (.pick (.t 257) (.t 269) (.bool false)),
 cm 271 270,
 cu 272 271 (.call 15 [] []),
 cq 273 (.pick (.t 271) (.t 272) (.bool false)),
 cm 6 273]
def c11:AFn:=⟨274,[.tmp 6],cs c11_r0 (.seq (cs c11_r1 (.cond (.t 48) (cs c11_r2 (.ret)) (.skip))) (cs c11_r3 (cs c11_r4 (cs c11_r5 (cs c11_r6 (cs c11_r7 (.seq (cs c11_r8 (.cond (.t 120) (cs c11_r9 (.ret)) (.skip))) (cs c11_r10 (.seq (cs c11_r11 (.block 0 (.loop c11_b0 [3,4,5,13,16,17] []))) (.seq (cs c11_r16 (.cond (.t 150) (cs c11_r17 (cs c11_r18 (.cond (.t 169) (cs c11_r19 (.ret)) (.skip)))) (.skip))) (.seq (cs c11_r20 (.cond (.t 174) (cs c11_r21 (.ret)) (.skip))) (cs c11_r22 (cs c11_r23 (cs c11_r24 (.seq (cs c11_r25 (.cond (.t 224) (cs c11_r26 (.ret)) (.skip))) (cs c11_r27 (.seq (.ops c11_r28 true) (.ret))))))))))))))))))⟩
def c12_r0:CL:=[cq 1 (.boxi (.t 0)),
 cq 2 (.mov (.bool false))]
def c12_r1:CL:=[cq 24 (.fld 0 (.t 1)),
 cq 25 (.fld 0 (.t 24)),
 cq 26 (.ldi 1 false (.t 25)),
 cq 27 (.len (.t 26)),
 cq 28 (.bin .sub (.t 27) (ci 1)),
 cm 3 28]
def c12_r2:CL:=[cm 29 3,
 cq 30 (.bin .lss (.t 29) (ci 0)),
 cm 31 30,
 cv 32 31 (.ldi 12 true (.t 1)),
 cv 33 31 (.call 24 [.t 32] []),
 cq 34 (.pick (.t 31) (.bool true) (.t 33)),
 cm 35 34,
 cv 36 35 (.ldi 12 true (.t 1)),
 cv 37 35 (.call 26 [.t 36] []),
 cv 38 35 (.bin .neq (.t 37) (ci 0)),
 cq 39 (.pick (.t 35) (.bool true) (.t 38)),
 cm 40 39,
 cx 41 40 3,
 cv 42 40 (.bin .add (.t 41) (ci 1)),
 cv 43 40 (.bin .geq (.t 42) (ci 12)),
 cq 44 (.pick (.t 40) (.bool true) (.t 43)),
 cm 45 44,
 cv 46 45 (.fld 0 (.t 1)),
 cv 47 45 (.fld 0 (.t 46)),
 cv 48 45 (.ldi 1 false (.t 47)),
 cx 49 45 3,
 cv 50 45 (.ixi 5 (.t 48) (.t 49)),
 cv 51 45 (.fld 0 (.t 50)),
 cv 52 45 (.ldi 1 false (.t 51)),
 cv 53 45 (.bin .neq (.t 52) (ci 4)),
 cq 54 (.pick (.t 45) (.bool true) (.t 53))]
def c12_r3:CL:=[cq 55 (.call 56 [] []),
 cm 2 55]
def c12_r4:CL:=[cq 56 (.fld 9 (.t 1)),
 cq 57 (.ldi 1 false (.t 56)),
 cq 58 (.len (.t 57)),
 cq 59 (.bin .sub (.t 58) (ci 1)),
 cm 4 59]
def c12_r5:CL:=[cq 60 (.fld 9 (.t 1)),
 cq 61 (.ldi 1 false (.t 60)),
 cm 62 4,
 cq 63 (.ixi 3 (.t 61) (.t 62)),
 cq 64 (.fld 2 (.t 63)),
 cq 65 (.ldi 1 false (.t 64)),
 cq 66 (.bin .lss (.t 65) (ci 0))]
def c12_r6:CL:=[cq 67 (.call 56 [] []),
 cm 2 67]
def c12_r7:CL:=[cq 68 (.ldi 12 true (.t 1)),
 cq 69 (.callo 16 [.t 68] [] 69),
 cq 5 (.alo 5 [.nil 5,.nil 5,ci 0,.nil 3,ci 0,ci 0,ci 0,.nil 4,ci 0,.nil 3,ci 0,ci 0]),
 cn (.sto 5 12 (.t 5) (.t 69))]
def c12_r8:CL:=[cq 70 (.fld 0 (.t 5)),
 cq 71 (.fld 0 (.t 70)),
 cq 72 (.ldo 5 1 false (.t 71)),
 cq 73 (.fld 9 (.t 1)),
 cq 74 (.ldi 1 false (.t 73)),
 cm 75 4,
 cq 76 (.ixi 3 (.t 74) (.t 75)),
 cq 77 (.fld 2 (.t 76)),
 cq 78 (.ldi 1 false (.t 77)),
 cq 79 (.bld [ci 0,ci 0,ci 0,ci 0,ci 0] [(0,1,ci 2),(1,1,.t 78)]),
 cq 80 (.bsl 5 [.t 79]),
 cq 81 (.app 69 56 5 40 (.t 72) (.t 80)),
 cq 82 (.fld 0 (.t 5)),
 cq 83 (.fld 0 (.t 82)),
 cn (.sto 5 1 (.t 83) (.t 81))]
def c12_r9:CL:=[cq 85 (.ldi 12 true (.t 1)),
 cq 86 (.call 27 [.t 85] []),
 cm 84 86,
 cq 87 (.ext (.t 84) 0),
 cq 88 (.ext (.t 84) 1),
 cm 6 87,
 cm 7 88]
def c12_r10:CL:=[cq 90 (.ldi 12 true (.t 5)),
 cq 91 (.call 27 [.t 90] []),
 cm 89 91,
 cq 92 (.ext (.t 89) 0),
 cq 93 (.ext (.t 89) 1),
 cm 8 92,
 cm 9 93]
def c12_r11:CL:=[cm 94 6,
 cm 95 8,
 cq 96 (.bin .neq (.t 94) (.t 95)),
 cm 97 96,
 cx 98 97 7,
 cx 99 97 9,
 cv 100 97 (.bin .neq (.t 98) (.t 99)),
 cq 101 (.pick (.t 97) (.bool true) (.t 100)),
 cm 102 101,
 cx 103 102 7,
 cv 104 102 (.bin .neq (.t 103) (ci 0)),
 cx 105 102 104,
 cw 106 105 7,
 cu 107 105 (.bin .neq (.t 106) (ci 3)),
 cv 108 102 (.pick (.t 105) (.t 107) (.bool false)),
 cq 109 (.pick (.t 102) (.bool true) (.t 108))]
def c12_r12:CL:=[cq 2 (.mov (.bool false))]
def c12_r13:CL:=[cm 110 7,
 cq 111 (.bin .neq (.t 110) (ci 0))]
def c12_r14:CL:=[cq 112 (.call 56 [] []),
 cm 2 112]
def c12_r15:CL:=[cq 114 (.ldi 12 true (.t 1)),
 cm 115 4,
 cq 116 (.call 31 [.t 114,.t 115] []),
 cm 113 116,
 cq 117 (.ext (.t 113) 0),
 cq 118 (.ext (.t 113) 1),
 cm 10 117,
 cm 7 118]
def c12_r16:CL:=[cm 119 7,
 cq 120 (.bin .neq (.t 119) (ci 0)),
 cm 121 120,
 cx 122 121 10,
 cv 123 121 (.len (.t 122)),
 cv 124 121 (.bin .lss (.t 123) (ci 1)),
 cq 125 (.pick (.t 121) (.bool true) (.t 124)),
 cm 126 125,
 cx 127 126 10,
 cv 128 126 (.len (.t 127)),
 cv 129 126 (.bin .gtr (.t 128) (ci 40)),
 cq 130 (.pick (.t 126) (.bool true) (.t 129))]
def c12_r17:CL:=[cq 2 (.mov (.bool false))]
def c12_r18:CL:=[cq 11 (.mov (ci 0))]
def c12_r19:CL:=[cm 131 11,
 cm 132 10,
 cq 133 (.len (.t 132)),
 cq 134 (.bin .lss (.t 131) (.t 133))]
def c12_r21:CL:=[cq 138 (.fld 0 (.t 5)),
 cq 139 (.ldi 3 true (.t 138)),
 cm 140 10,
 cm 141 11,
 cq 142 (.ixi 1 (.t 140) (.t 141)),
 cq 143 (.ldi 1 false (.t 142)),
 cq 144 (.call 57 [.t 139,.t 143] []),
 cm 137 144,
 cq 145 (.ext (.t 137) 0),
 cq 146 (.ext (.t 137) 1),
 cm 12 145,
 cm 13 146]
def c12_r22:CL:=[cm 147 13,
 cq 148 (.bin .neq (.t 147) (ci 0)),
 cm 149 148,
 cx 150 149 12,
 cv 151 149 (.len (.t 150)),
 cv 152 149 (.bin .gtr (.t 151) (ci 40)),
 cq 153 (.pick (.t 149) (.bool true) (.t 152)),
 cm 154 153,
 cx 155 154 12,
 cv 156 154 (.call 52 [.t 155,.int .i64 (-1)] []),
 cv 157 154 (.not (.t 156)),
 cq 158 (.pick (.t 154) (.bool true) (.t 157)),
 cm 159 158,
 cx 160 159 10,
 cv 161 159 (.len (.t 160)),
 cv 162 159 (.bin .eql (.t 161) (ci 1)),
 cx 163 159 162,
 cw 164 163 12,
 cu 165 163 (.len (.t 164)),
 cu 166 163 (.bin .neq (.t 165) (ci 1)),
 cv 167 159 (.pick (.t 163) (.t 166) (.bool false)),
 cq 168 (.pick (.t 159) (.bool true) (.t 167))]
def c12_r23:CL:=[cq 2 (.mov (.bool false))]
def c12_r20:CL:=[cm 135 11,
 cq 136 (.bin .add (.t 135) (ci 1)),
 cm 11 136]
def c12_b0:AC:=.seq (cs c12_r19 (.cond (.t 134) (.skip) (.exit 0))) (.seq (.block 1 (.seq (.ops c12_r21 true) (cs c12_r22 (.cond (.t 168) (cs c12_r23 (.ret)) (.skip))))) (co c12_r20))
def c12_r24:CL:=[cq 170 (.ldi 12 true (.t 1)),
 cq 171 (.call 17 [.t 170] []),
 cm 169 171,
 cq 172 (.ext (.t 169) 0),
 cq 173 (.ext (.t 169) 1),
 cq 14 (.alo 14 [ci 0,ci 0]),
 cn (.sto 14 2 (.t 14) (.t 172)),
 cm 7 173]
def c12_r25:CL:=[cq 175 (.ldi 12 true (.t 5)),
 cq 176 (.call 17 [.t 175] []),
 cm 174 176,
 cq 177 (.ext (.t 174) 0),
 cq 178 (.ext (.t 174) 1),
 cq 15 (.alo 15 [ci 0,ci 0]),
 cn (.sto 15 2 (.t 15) (.t 177)),
 cm 9 178]
def c12_r26:CL:=[cq 180 (.ldi 12 true (.t 1)),
 cq 181 (.call 19 [.t 180] []),
 cm 179 181,
 cq 182 (.ext (.t 179) 0),
 cq 183 (.ext (.t 179) 1),
 cm 16 182,
 cm 17 183]
def c12_r27:CL:=[cq 185 (.ldi 12 true (.t 5)),
 cq 186 (.call 19 [.t 185] []),
 cm 184 186,
 cq 187 (.ext (.t 184) 0),
 cq 188 (.ext (.t 184) 1),
 cm 18 187,
 cm 19 188]
def c12_r28:CL:=[cq 190 (.ldi 12 true (.t 1)),
 cq 191 (.call 20 [.t 190] []),
 cm 189 191,
 cq 192 (.ext (.t 189) 0),
 cq 193 (.ext (.t 189) 1),
 cm 20 192,
 cm 21 193]
def c12_r29:CL:=[cq 195 (.ldi 12 true (.t 5)),
 cq 196 (.call 20 [.t 195] []),
 cm 194 196,
 cq 197 (.ext (.t 194) 0),
 cq 198 (.ext (.t 194) 1),
 cm 22 197,
 cm 23 198]
def c12_r30:CL:=[cm 199 7,
 cq 200 (.bin .eql (.t 199) (ci 0)),
 cm 201 200,
 cw 202 201 9,
 cu 203 201 (.bin .eql (.t 202) (ci 0)),
 cq 204 (.pick (.t 201) (.t 203) (.bool false)),
 cm 205 204,
 cw 206 205 17,
 cu 207 205 (.bin .eql (.t 206) (ci 0)),
 cq 208 (.pick (.t 205) (.t 207) (.bool false)),
 cm 209 208,
 cw 210 209 19,
 cu 211 209 (.bin .eql (.t 210) (ci 0)),
 cq 212 (.pick (.t 209) (.t 211) (.bool false)),
 cm 213 212,
 cu 214 213 (.ldo 14 2 true (.t 14)),
 cu 215 213 (.ldo 15 2 true (.t 15)),
 cu 216 213 (.yy (.eqs false 2 (.t 214) (.t 215))),
 cq 217 (.pick (.t 213) (.t 216) (.bool false)),
 cm 218 217,
 cw 219 218 16,
 cu 220 218 (.bin .neq (.t 219) (ci 1)),
 cw 221 218 220,
 cx 222 221 18,
 cv 223 221 (.bin .eql (.t 222) (ci 1)),
 cu 224 218 (.pick (.t 221) (.bool true) (.t 223)),
 cq 225 (.pick (.t 218) (.t 224) (.bool false)),
 cm 226 225,
 cw 227 226 21,
 cu 228 226 (.bin .neq (.t 227) (ci 0)),
 cw 229 226 228,
 cx 230 229 23,
 cv 231 229 (.bin .eql (.t 230) (ci 0)),
 cx 232 229 231,
 cw 233 232 22,
 cw 234 232 20,
 cu 235 232 (.bin .geq (.t 233) (.t 234)),
 cv 236 229 (.pick (.t 232) (.t 235) (.bool false)),
 cu 237 226 (.pick (.t 229) (.bool true) (.t 236)),
 cq 238 (.pick (.t 226) (.t 237) (.bool false)),
 cm 239 238,
 cu 240 239 (.call 56 [] []),
 cq 241 (.pick (.t 239) (.t 240) (.bool false)),
 cm 2 241]
def c12:AFn:=⟨242,[.tmp 2],cs c12_r0 (cs c12_r1 (.seq (cs c12_r2 (.cond (.t 54) (cs c12_r3 (.ret)) (.skip))) (cs c12_r4 (.seq (cs c12_r5 (.cond (.t 66) (cs c12_r6 (.ret)) (.skip))) (cs c12_r7 (.seq (.ops c12_r8 true) (.seq (.fz [1,4,5] [] (co c12_r9)) (cs c12_r10 (.seq (cs c12_r11 (.cond (.t 109) (cs c12_r12 (.ret)) (.skip))) (.seq (cs c12_r13 (.cond (.t 111) (cs c12_r14 (.ret)) (.skip))) (cs c12_r15 (.seq (cs c12_r16 (.cond (.t 130) (cs c12_r17 (.ret)) (.skip))) (.seq (cs c12_r18 (.block 0 (.loop c12_b0 [1,5,10,11] [5,69]))) (cs c12_r24 (cs c12_r25 (cs c12_r26 (cs c12_r27 (cs c12_r28 (cs c12_r29 (cs c12_r30 (.ret)))))))))))))))))))))⟩
def c16_r0:CL:=[cq 1 (.boxi (.t 0)),
 cq 2 (.alo 2 [.nil 5,.nil 5,ci 0,.nil 3,ci 0,ci 0,ci 0,.nil 4,ci 0,.nil 3,ci 0,ci 0])]
def c17_r0:CL:=[cq 1 (.boxi (.t 0)),
 cq 2 (.alo 2 [ci 0,ci 0]),
 cq 3 (.mov (ci 0))]
def c17_r1:CL:=[cq 10 (.ldi 12 true (.t 1)),
 cq 11 (.call 63 [.t 10,.bool true] []),
 cm 9 11,
 cq 12 (.ext (.t 9) 0),
 cq 13 (.ext (.t 9) 1),
 cm 4 12,
 cm 5 13]
def c17_r2:CL:=[cm 14 5,
 cq 15 (.bin .neq (.t 14) (ci 0))]
def c17_r3:CL:=[cq 16 (.bld [ci 0,ci 0] []),
 cm 17 5,
 cn (.sto 2 2 (.t 2) (.t 16)),
 cm 3 17]
def c17_r4:CL:=[cq 18 (.fld 9 (.t 1)),
 cq 19 (.ldi 1 false (.t 18)),
 cq 20 (.len (.t 19)),
 cq 21 (.bld [ci 0,ci 0] [(0,1,.t 20)]),
 cq 6 (.alo 6 [ci 0,ci 0]),
 cn (.sto 6 2 (.t 6) (.t 21))]
def c17_r5:CL:=[cm 22 4,
 cq 23 (.yy (.mkf 64 [.t 22] []))]
def c17_r6:CL:=[cq 7 (.alo 7 [.nil 1,.nil 1,.nil 1,.nil 2]),
 cn (.sto 7 4 (.t 7) (.t 24))]
def c17_r7:CL:=[cq 25 (.ldo 7 4 true (.t 7)),
 cq 26 (.fld 10 (.t 1)),
 cq 27 (.ldi 1 false (.t 26)),
 cq 28 (.call 65 [.t 25,.t 27] []),
 cm 8 28]
def c17_r8:CL:=[cq 29 (.fld 0 (.t 6)),
 cq 30 (.ldo 6 1 false (.t 29)),
 cm 31 8,
 cq 32 (.yy (.mx true (.t 30) (.t 31))),
 cq 33 (.fld 1 (.t 6)),
 cq 34 (.ldo 6 1 false (.t 33)),
 cm 35 8,
 cq 36 (.yy (.mx false (.t 34) (.t 35))),
 cq 37 (.bld [ci 0,ci 0] [(0,1,.t 32),(1,1,.t 36)]),
 cn (.sto 6 2 (.t 6) (.t 37))]
def c17_b0a:AC:=.ops c17_r6 false
def c17_b0:AC:=.block 1 (cs c17_r7 (co c17_r8))
def c17_r9:CL:=[cq 38 (.ldo 6 2 true (.t 6)),
 cn (.sto 2 2 (.t 2) (.t 38)),
 cq 3 (.mov (ci 0))]
def c17:AFn:=⟨39,[.cell 2 2 true,.tmp 3],cs c17_r0 (cs c17_r1 (.seq (cs c17_r2 (.cond (.t 15) (cs c17_r3 (.ret)) (.skip))) (cs c17_r4 (.seq (cs c17_r5 (.block 0 (.range (.t 23) [24] c17_b0a c17_b0 [1,2,6] [2,6]))) (cs c17_r9 (.ret))))))⟩
def c19_r0:CL:=[cq 1 (.boxi (.t 0)),
 cq 2 (.mov (ci 0)),
 cq 3 (.mov (ci 0))]
def c19_r1:CL:=[cq 4 (.ldi 12 true (.t 1)),
 cq 5 (.yy (.mkf 72 [] [.t 1])),
 cq 6 (.call 66 [.t 4,.bool true,.t 5] []),
 cq 7 (.ext (.t 6) 0),
 cq 8 (.ext (.t 6) 1),
 cm 2 7,
 cm 3 8]
def c19:AFn:=⟨9,[.tmp 2,.tmp 3],cs c19_r0 (cs c19_r1 (.ret))⟩
def c20_r0:CL:=[cq 1 (.boxi (.t 0)),
 cq 2 (.mov (ci 0)),
 cq 3 (.mov (ci 0))]
def c20_r1:CL:=[cq 11 (.ldi 12 true (.t 1)),
 cq 12 (.call 63 [.t 11,.bool true] []),
 cm 10 12,
 cq 13 (.ext (.t 10) 0),
 cq 14 (.ext (.t 10) 1),
 cq 4 (.alo 4 [.nilp]),
 cn (.sto 4 1 (.t 4) (.t 13)),
 cm 5 14]
def c20_r2:CL:=[cm 15 5,
 cq 16 (.bin .neq (.t 15) (ci 0))]
def c20_r3:CL:=[cm 17 5,
 cq 2 (.mov (ci 0)),
 cm 3 17]
def c20_r4:CL:=[cq 18 (.yy (.mkf 74 [] [.t 4,.t 1])),
 cm 6 18]
def c20_r5:CL:=[cm 19 6,
 cq 20 (.calld (.t 19) [ci 0] []),
 cq 21 (.not (.t 20))]
def c20_r6:CL:=[cq 2 (.mov (ci 0)),
 cq 3 (.mov (ci 3))]
def c20_r7:CL:=[cq 7 (.mov (ci 0)),
 cq 8 (.mov (ci 999999999))]
def c20_r8:CL:=[cm 22 7,
 cm 23 8,
 cq 24 (.bin .lss (.t 22) (.t 23))]
def c20_r9:CL:=[cm 25 7,
 cm 26 8,
 cq 27 (.bin .add (.t 25) (.t 26)),
 cq 28 (.bin .add (.t 27) (ci 1)),
 cq 29 (.bin .quo (.t 28) (ci 2)),
 cm 9 29]
def c20_r10:CL:=[cm 30 6,
 cm 31 9,
 cq 32 (.calld (.t 30) [.t 31] [])]
def c20_r11:CL:=[cm 33 9,
 cm 7 33]
def c20_r12:CL:=[cm 34 9,
 cq 35 (.bin .sub (.t 34) (ci 1)),
 cm 8 35]
def c20_b0:AC:=.seq (cs c20_r8 (.cond (.t 24) (.skip) (.exit 0))) (.block 1 (cs c20_r9 (cs c20_r10 (.cond (.t 32) (co c20_r11) (co c20_r12)))))
def c20_r13:CL:=[cm 36 7,
 cm 2 36,
 cq 3 (.mov (ci 0))]
def c20:AFn:=⟨37,[.tmp 2,.tmp 3],cs c20_r0 (cs c20_r1 (.frz 4 4 [1,5] [] (.seq (cs c20_r2 (.cond (.t 16) (cs c20_r3 (.ret)) (.skip))) (cs c20_r4 (.seq (cs c20_r5 (.cond (.t 21) (cs c20_r6 (.ret)) (.skip))) (cs c20_r7 (.seq (.block 0 (.loop c20_b0 [6,7,8] [])) (cs c20_r13 (.ret)))))))))⟩
def c24_r0:CL:=[cq 1 (.boxi (.t 0)),
 cq 2 (.mov (.bool false))]
def c24_r1:CL:=[cq 6 (.fld 0 (.t 1)),
 cq 7 (.ldi 3 true (.t 6)),
 cq 8 (.call 78 [.t 7] []),
 cm 9 8,
 cv 10 9 (.fld 3 (.t 1)),
 cv 11 9 (.ldi 6 true (.t 10)),
 cv 12 9 (.call 79 [.t 11] []),
 cq 13 (.pick (.t 9) (.bool true) (.t 12)),
 cm 14 13,
 cv 15 14 (.fld 9 (.t 1)),
 cv 16 14 (.ldi 1 false (.t 15)),
 cv 17 14 (.len (.t 16)),
 cv 18 14 (.bin .gtr (.t 17) (ci 40)),
 cq 19 (.pick (.t 14) (.bool true) (.t 18))]
def c24_r2:CL:=[cq 2 (.mov (.bool true))]
def c24_r3:CL:=[cq 20 (.ldi 12 true (.t 1)),
 cq 21 (.call 26 [.t 20] []),
 cq 22 (.bin .neq (.t 21) (ci 0))]
def c24_r4:CL:=[cq 2 (.mov (.bool false))]
def c24_r5:CL:=[cq 23 (.fld 3 (.t 1)),
 cq 24 (.fld 2 (.t 23)),
 cq 25 (.fld 1 (.t 24)),
 cq 26 (.ldi 1 false (.t 25)),
 cq 27 (.fld 3 (.t 1)),
 cq 28 (.fld 2 (.t 27)),
 cq 29 (.fld 0 (.t 28)),
 cq 30 (.ldi 1 false (.t 29)),
 cq 31 (.bin .sub (.t 26) (.t 30)),
 cq 32 (.bin .add (.t 31) (ci 1)),
 cm 3 32]
def c24_r6:CL:=[cq 4 (.mov (ci 0))]
def c24_r7:CL:=[cm 33 4,
 cq 34 (.fld 3 (.t 1)),
 cq 35 (.fld 0 (.t 34)),
 cq 36 (.ldi 1 false (.t 35)),
 cq 37 (.len (.t 36)),
 cq 38 (.bin .lss (.t 33) (.t 37))]
def c24_r9:CL:=[cm 41 3,
 cq 42 (.fld 3 (.t 1)),
 cq 43 (.fld 0 (.t 42)),
 cq 44 (.ldi 1 false (.t 43)),
 cm 45 4,
 cq 46 (.ixi 3 (.t 44) (.t 45)),
 cq 47 (.fld 1 (.t 46)),
 cq 48 (.fld 1 (.t 47)),
 cq 49 (.ldi 1 false (.t 48)),
 cq 50 (.fld 3 (.t 1)),
 cq 51 (.fld 0 (.t 50)),
 cq 52 (.ldi 1 false (.t 51)),
 cm 53 4,
 cq 54 (.ixi 3 (.t 52) (.t 53)),
 cq 55 (.fld 1 (.t 54)),
 cq 56 (.fld 0 (.t 55)),
 cq 57 (.ldi 1 false (.t 56)),
 cq 58 (.bin .sub (.t 49) (.t 57)),
 cq 59 (.bin .add (.t 58) (ci 1)),
 cq 60 (.bin .mul (.t 41) (.t 59)),
 cm 3 60]
def c24_r8:CL:=[cm 39 4,
 cq 40 (.bin .add (.t 39) (ci 1)),
 cm 4 40]
def c24_b0:AC:=.seq (cs c24_r7 (.cond (.t 38) (.skip) (.exit 0))) (.seq (.block 1 (.ops c24_r9 true)) (co c24_r8))
def c24_r10:CL:=[cq 5 (.mov (ci 0))]
def c24_r11:CL:=[cm 61 5,
 cq 62 (.fld 0 (.t 1)),
 cq 63 (.fld 0 (.t 62)),
 cq 64 (.ldi 1 false (.t 63)),
 cq 65 (.len (.t 64)),
 cq 66 (.bin .lss (.t 61) (.t 65))]
def c24_r13:CL:=[cq 69 (.fld 0 (.t 1)),
 cq 70 (.fld 0 (.t 69)),
 cq 71 (.ldi 1 false (.t 70)),
 cm 72 5,
 cq 73 (.ixi 5 (.t 71) (.t 72)),
 cq 74 (.fld 2 (.t 73)),
 cq 75 (.ldi 1 false (.t 74)),
 cq 76 (.bin .eql (.t 75) (ci 2))]
def c24_r14:CL:=[cm 77 3,
 cq 78 (.bin .mul (.t 77) (ci 2)),
 cm 3 78]
def c24_r12:CL:=[cm 67 5,
 cq 68 (.bin .add (.t 67) (ci 1)),
 cm 5 68]
def c24_b1:AC:=.seq (cs c24_r11 (.cond (.t 66) (.skip) (.exit 2))) (.seq (.block 3 (cs c24_r13 (.cond (.t 76) (co c24_r14) (.skip)))) (co c24_r12))
def c24_r15:CL:=[cm 79 3,
 cq 80 (.bin .gtr (.t 79) (ci 48)),
 cm 2 80]
def c24:AFn:=⟨81,[.tmp 2],cs c24_r0 (.seq (cs c24_r1 (.cond (.t 19) (cs c24_r2 (.ret)) (.skip))) (.seq (cs c24_r3 (.cond (.t 22) (cs c24_r4 (.ret)) (.skip))) (cs c24_r5 (.seq (cs c24_r6 (.block 0 (.loop c24_b0 [1,3,4] []))) (.seq (cs c24_r10 (.block 2 (.loop c24_b1 [1,3,5] []))) (cs c24_r15 (.ret)))))))⟩
theorem c12_ok:FnOk Tryz.prog 12 c12:=⟨_,Tryz.func12,by kernel_rfl⟩
theorem c17_ok:FnOk Tryz.prog 17 c17:=⟨_,Tryz.func17,by kernel_rfl⟩
theorem c19_ok:FnOk Tryz.prog 19 c19:=⟨_,Tryz.func19,by kernel_rfl⟩
theorem c20_ok:FnOk Tryz.prog 20 c20:=⟨_,Tryz.func20,by kernel_rfl⟩
theorem c24_ok:FnOk Tryz.prog 24 c24:=⟨_,Tryz.func24,by kernel_rfl⟩
end Go.Pf

/- The codes of the functions, as a program of ours has printed them, and that they are the codes of the functions of the program. -/
namespace Go.Pf
open Go Go.Ev Go.Proofs Go.RowKit
def c25_r0:CL:=[cq 1 (.boxi (.t 0)),
 cq 2 (.alo 2 [ci 0])]
def c25_r1:CL:=[cq 9 (.fld 0 (.t 1)),
 cq 10 (.ldi 3 true (.t 9)),
 cq 11 (.call 80 [.t 10] []),
 cq 12 (.bin .neq (.t 11) (ci 0)),
 cm 13 12,
 cv 14 13 (.fld 3 (.t 1)),
 cv 15 13 (.ldi 6 true (.t 14)),
 cv 16 13 (.call 81 [.t 15] []),
 cv 17 13 (.bin .neq (.t 16) (ci 0)),
 cq 18 (.pick (.t 13) (.bool true) (.t 17)),
 cm 19 18,
 cv 20 19 (.fld 10 (.t 1)),
 cv 21 19 (.ldi 1 false (.t 20)),
 cv 22 19 (.call 67 [.t 21,ci 0,ci 999999999] []),
 cv 23 19 (.not (.t 22)),
 cq 24 (.pick (.t 19) (.bool true) (.t 23)),
 cm 25 24,
 cv 26 25 (.fld 11 (.t 1)),
 cv 27 25 (.ldi 1 false (.t 26)),
 cv 28 25 (.call 67 [.t 27,ci 1,ci 12] []),
 cv 29 25 (.not (.t 28)),
 cq 30 (.pick (.t 25) (.bool true) (.t 29))]
def c25_r2:CL:=[cn (.sto 2 1 (.t 2) (ci 60))]
def c25_r3:CL:=[cq 3 (.alo 3 [ci 0]),
 cn (.sto 3 1 (.t 3) (ci 0))]
def c25_r4:CL:=[cq 31 (.fld 0 (.t 1)),
 cq 32 (.ldi 3 true (.t 31)),
 cq 33 (.call 82 [.t 32] [])]
def c25_r5:CL:=[cm 4 34]
def c25_r6:CL:=[cm 5 35]
def c25_r7:CL:=[cq 36 (.ldo 3 1 false (.t 3)),
 cq 37 (.bin .add (.t 36) (ci 1)),
 cn (.sto 3 1 (.t 3) (.t 37))]
def c25_r8:CL:=[cm 38 4,
 cq 39 (.fld 9 (.t 1)),
 cq 40 (.ldi 1 false (.t 39)),
 cq 41 (.len (.t 40)),
 cq 42 (.bin .geq (.t 38) (.t 41))]
def c25_r9:CL:=[cn (.sto 2 1 (.t 2) (ci 60))]
def c25_r10:CL:=[cq 43 (.fld 9 (.t 1)),
 cq 44 (.ldi 1 false (.t 43)),
 cm 45 4,
 cq 46 (.ixi 3 (.t 44) (.t 45)),
 cq 47 (.ldi 3 true (.t 46)),
 cq 6 (.alo 6 [ci 0,ci 0,ci 0]),
 cn (.sto 6 3 (.t 6) (.t 47))]
def c25_r11:CL:=[cq 49 (.fld 0 (.t 1)),
 cq 50 (.ldi 3 true (.t 49)),
 cm 51 5,
 cq 52 (.call 84 [.t 50,.t 51] []),
 cq 53 (.call 83 [.t 52] []),
 cm 48 53,
 cq 54 (.ext (.t 48) 0),
 cq 55 (.ext (.t 48) 1),
 cm 7 54,
 cm 8 55]
def c25_r12:CL:=[cq 56 (.fld 0 (.t 6)),
 cq 57 (.ldo 6 1 false (.t 56)),
 cq 58 (.call 67 [.t 57,ci 0,ci 9999] []),
 cq 59 (.not (.t 58)),
 cm 60 59,
 cv 61 60 (.fld 1 (.t 6)),
 cv 62 60 (.ldo 6 1 false (.t 61)),
 cv 63 60 (.call 67 [.t 62,ci 0,ci 99] []),
 cv 64 60 (.not (.t 63)),
 cq 65 (.pick (.t 60) (.bool true) (.t 64)),
 cm 66 65,
 cv 67 66 (.fld 2 (.t 6)),
 cv 68 66 (.ldo 6 1 false (.t 67)),
 cx 69 66 7,
 cv 70 66 (.bin .sub (.t 69) (ci 1)),
 cv 71 66 (.call 67 [.t 68,.int .i64 (-1),.t 70] []),
 cv 72 66 (.not (.t 71)),
 cq 73 (.pick (.t 66) (.bool true) (.t 72))]
def c25_r13:CL:=[cn (.sto 2 1 (.t 2) (ci 60))]
def c25_b0a:AC:=cs c25_r5 (co c25_r6)
def c25_b0:AC:=.block 1 (cs c25_r7 (.seq (cs c25_r8 (.cond (.t 42) (cs c25_r9 (.ret)) (.skip))) (cs c25_r10 (cs c25_r11 (cs c25_r12 (.cond (.t 73) (cs c25_r13 (.ret)) (.skip)))))))
def c25_r14:CL:=[cq 74 (.ldo 3 1 false (.t 3)),
 cq 75 (.fld 9 (.t 1)),
 cq 76 (.ldi 1 false (.t 75)),
 cq 77 (.len (.t 76)),
 cq 78 (.bin .neq (.t 74) (.t 77))]
def c25_r15:CL:=[cn (.sto 2 1 (.t 2) (ci 60))]
def c25_r16:CL:=[cn (.sto 2 1 (.t 2) (ci 0))]
def c25:AFn:=⟨79,[.cell 2 1 false],cs c25_r0 (.seq (cs c25_r1 (.cond (.t 30) (cs c25_r2 (.ret)) (.skip))) (cs c25_r3 (.seq (cs c25_r4 (.block 0 (.range (.t 33) [34,35] c25_b0a c25_b0 [1,2,3] [2,3]))) (.seq (cs c25_r14 (.cond (.t 78) (cs c25_r15 (.ret)) (.skip))) (cs c25_r16 (.ret))))))⟩
def c26_r0:CL:=[cq 1 (.boxi (.t 0)),
 cq 2 (.mov (ci 0))]
def c26_r1:CL:=[cq 7 (.fld 0 (.t 1)),
 cq 8 (.ldi 3 true (.t 7)),
 cq 9 (.call 85 [.t 8] []),
 cq 10 (.bin .neq (.t 9) (ci 0)),
 cm 11 10,
 cv 12 11 (.fld 3 (.t 1)),
 cv 13 11 (.ldi 6 true (.t 12)),
 cv 14 11 (.call 86 [.t 13] []),
 cv 15 11 (.bin .neq (.t 14) (ci 0)),
 cq 16 (.pick (.t 11) (.bool true) (.t 15)),
 cm 17 16,
 cv 18 17 (.fld 10 (.t 1)),
 cv 19 17 (.ldi 1 false (.t 18)),
 cv 20 17 (.call 87 [.t 19,ci 0,ci 999999999] []),
 cv 21 17 (.not (.t 20)),
 cq 22 (.pick (.t 17) (.bool true) (.t 21)),
 cm 23 22,
 cv 24 23 (.fld 11 (.t 1)),
 cv 25 23 (.ldi 1 false (.t 24)),
 cv 26 23 (.call 87 [.t 25,ci 1,ci 12] []),
 cv 27 23 (.not (.t 26)),
 cq 28 (.pick (.t 23) (.bool true) (.t 27))]
def c26_r2:CL:=[cq 2 (.mov (ci 60))]
def c26_r3:CL:=[cq 29 (.fld 0 (.t 1)),
 cq 30 (.ldi 3 true (.t 29)),
 cq 31 (.call 88 [.t 30] []),
 cm 3 31]
def c26_r4:CL:=[cm 32 3,
 cq 33 (.len (.t 32)),
 cq 34 (.fld 9 (.t 1)),
 cq 35 (.ldi 1 false (.t 34)),
 cq 36 (.len (.t 35)),
 cq 37 (.bin .neq (.t 33) (.t 36))]
def c26_r5:CL:=[cq 2 (.mov (ci 60))]
def c26_r6:CL:=[cq 38 (.fld 0 (.t 1)),
 cq 39 (.ldi 3 true (.t 38)),
 cq 40 (.fld 0 (.t 1)),
 cq 41 (.ldi 3 true (.t 40)),
 cq 42 (.call 90 [.t 41] []),
 cq 43 (.call 89 [.t 39,.t 42] []),
 cm 4 43]
def c26_r7:CL:=[cq 5 (.mov (ci 0))]
def c26_r8:CL:=[cm 44 5,
 cq 45 (.fld 9 (.t 1)),
 cq 46 (.ldi 1 false (.t 45)),
 cq 47 (.len (.t 46)),
 cq 48 (.bin .lss (.t 44) (.t 47))]
def c26_r10:CL:=[cq 51 (.fld 9 (.t 1)),
 cq 52 (.ldi 1 false (.t 51)),
 cm 53 5,
 cq 54 (.ixi 3 (.t 52) (.t 53)),
 cq 55 (.ldi 3 true (.t 54)),
 cq 6 (.alo 6 [ci 0,ci 0,ci 0]),
 cn (.sto 6 3 (.t 6) (.t 55))]
def c26_r11:CL:=[cq 56 (.fld 0 (.t 6)),
 cq 57 (.ldo 6 1 false (.t 56)),
 cq 58 (.fld 1 (.t 6)),
 cq 59 (.ldo 6 1 false (.t 58)),
 cq 60 (.call 91 [.t 57,.t 59,ci 0] []),
 cq 61 (.not (.t 60)),
 cm 62 61,
 cv 63 62 (.fld 2 (.t 6)),
 cv 64 62 (.ldo 6 1 false (.t 63)),
 cx 65 62 4,
 cx 66 62 3,
 cx 67 62 5,
 cv 68 62 (.ixi 1 (.t 66) (.t 67)),
 cv 69 62 (.ldi 1 false (.t 68)),
 cv 70 62 (.ixi 1 (.t 65) (.t 69)),
 cv 71 62 (.ldi 1 false (.t 70)),
 cv 72 62 (.len (.t 71)),
 cv 73 62 (.bin .sub (.t 72) (ci 1)),
 cv 74 62 (.call 87 [.t 64,.int .i64 (-1),.t 73] []),
 cv 75 62 (.not (.t 74)),
 cq 76 (.pick (.t 62) (.bool true) (.t 75))]
def c26_r12:CL:=[cq 2 (.mov (ci 60))]
def c26_r9:CL:=[cm 49 5,
 cq 50 (.bin .add (.t 49) (ci 1)),
 cm 5 50]
def c26_b0:AC:=.seq (cs c26_r8 (.cond (.t 48) (.skip) (.exit 0))) (.seq (.block 1 (cs c26_r10 (.seq (.ops c26_r11 true) (.cond (.t 76) (cs c26_r12 (.ret)) (.skip))))) (co c26_r9))
def c26_r13:CL:=[cq 2 (.mov (ci 0))]
def c26:AFn:=⟨77,[.tmp 2],cs c26_r0 (.seq (cs c26_r1 (.cond (.t 28) (cs c26_r2 (.ret)) (.skip))) (cs c26_r3 (.seq (cs c26_r4 (.cond (.t 37) (cs c26_r5 (.ret)) (.skip))) (.seq (.ops c26_r6 true) (.seq (cs c26_r7 (.block 0 (.loop c26_b0 [1,3,4,5] []))) (cs c26_r13 (.ret)))))))⟩
def c27_r0:CL:=[cq 1 (.boxi (.t 0)),
 cq 2 (.mov (ci 0)),
 cq 3 (.mov (ci 0))]
def c27_r1:CL:=[cq 7 (.ldi 12 true (.t 1)),
 cq 8 (.call 63 [.t 7,.bool true] []),
 cm 6 8,
 cq 9 (.ext (.t 6) 0),
 cq 10 (.ext (.t 6) 1),
 cm 4 9,
 cm 5 10]
def c27_r2:CL:=[cm 11 5,
 cq 12 (.bin .neq (.t 11) (ci 0))]
def c27_r3:CL:=[cm 13 5,
 cq 2 (.mov (ci 0)),
 cm 3 13]
def c27_r4:CL:=[cm 14 4,
 cq 15 (.nilc (.t 14)),
 cq 16 (.fld 12 (.t 15)),
 cq 17 (.ldi 1 false (.t 16)),
 cq 18 (.len (.t 17)),
 cm 19 4,
 cq 20 (.nilc (.t 19)),
 cq 21 (.fld 13 (.t 20)),
 cq 22 (.ldi 1 false (.t 21)),
 cq 23 (.len (.t 22)),
 cq 24 (.bin .mul (.t 18) (.t 23)),
 cm 2 24,
 cq 3 (.mov (ci 0))]
def c27:AFn:=⟨25,[.tmp 2,.tmp 3],cs c27_r0 (cs c27_r1 (.seq (cs c27_r2 (.cond (.t 12) (cs c27_r3 (.ret)) (.skip))) (.seq (.ops c27_r4 true) (.ret))))⟩
def c31_r0:CL:=[cq 2 (.boxi (.t 0)),
 cq 4 (.mov (.nil 1)),
 cq 5 (.mov (ci 0))]
def c31_r1:CL:=[cq 12 (.ldi 12 true (.t 2)),
 cq 13 (.ldi 12 true (.t 2)),
 cm 14 1,
 cq 15 (.call 93 [.t 13,.t 14] []),
 cq 16 (.call 63 [.t 12,.t 15] []),
 cm 11 16,
 cq 17 (.ext (.t 11) 0),
 cq 18 (.ext (.t 11) 1),
 cm 6 17,
 cm 7 18]
def c31_r2:CL:=[cm 19 7,
 cq 20 (.bin .neq (.t 19) (ci 0))]
def c31_r3:CL:=[cm 21 7,
 cq 4 (.mov (.nil 1)),
 cm 5 21]
def c31_r4:CL:=[cq 22 (.yy (.mkm 22 none)),
 cm 8 22]
def c31_r5:CL:=[cm 23 6,
 cq 24 (.nilc (.t 23)),
 cq 25 (.fld 12 (.t 24)),
 cq 26 (.ldi 1 false (.t 25)),
 cq 27 (.len (.t 26)),
 cq 28 (.mov (ci 0))]
def c31_r6:CL:=[cq 29 (.bin .lss (.t 28) (.t 27))]
def c31_r7:CL:=[cq 30 (.ixi 3 (.t 26) (.t 28)),
 cq 31 (.ldi 3 true (.t 30)),
 cq 10 (.alo 10 [.nil 1,.nil 1,.nil 1]),
 cn (.sto 10 3 (.t 10) (.t 31))]
def c31_r8:CL:=[cq 32 (.fld 1 (.t 10)),
 cq 33 (.ldo 10 1 false (.t 32)),
 cm 34 1,
 cq 35 (.ixi 1 (.t 33) (.t 34)),
 cq 36 (.ldi 1 false (.t 35)),
 cq 37 (.bin .geq (.t 36) (ci 0))]
def c31_r9:CL:=[cm 38 8,
 cq 39 (.fld 1 (.t 10)),
 cq 40 (.ldo 10 1 false (.t 39)),
 cm 41 1,
 cq 42 (.ixi 1 (.t 40) (.t 41)),
 cq 43 (.ldi 1 false (.t 42)),
 cq 44 (.yy (.lkd 22 (some .i64) (ci 0) (.t 38) (.t 43))),
 cq 45 (.bin .add (.t 44) (ci 1)),
 cn (.yy (.mupd 22 (some .i64) (.t 38) (.t 43) (.t 45)))]
def c31_r10:CL:=[cq 46 (.bin .add (.t 28) (ci 1)),
 cm 28 46]
def c31_b0:AC:=cs c31_r6 (.seq (.cond (.t 29) (.skip) (.exit 0)) (.seq (.block 1 (cs c31_r7 (cs c31_r8 (.cond (.t 37) (co c31_r9) (.skip))))) (co c31_r10)))
def c31_r11:CL:=[cm 47 8,
 cq 48 (.call 96 [.t 47] []),
 cq 49 (.call 95 [.t 48] []),
 cm 4 49,
 cq 5 (.mov (ci 0))]
def c31:AFn:=⟨50,[.tmp 4,.tmp 5],cs c31_r0 (.seq (.ops c31_r1 true) (.seq (cs c31_r2 (.cond (.t 20) (cs c31_r3 (.ret)) (.skip))) (cs c31_r4 (.seq (cs c31_r5 (.block 0 (.loop c31_b0 [1,8,26,27,28] [22]))) (.seq (.fz [8] [] (co c31_r11)) (.ret))))))⟩
def c34_r0:CL:=[cq 4 (.mov (.bool false))]
def c34_r1:CL:=[cm 6 0,
 cq 7 (.len (.t 6)),
 cm 8 1,
 cq 9 (.len (.t 8)),
 cq 10 (.bin .neq (.t 7) (.t 9))]
def c34_r2:CL:=[cq 4 (.mov (.bool false))]
def c34_r3:CL:=[cq 5 (.mov (ci 0))]
def c34_r4:CL:=[cm 11 5,
 cm 12 0,
 cq 13 (.len (.t 12)),
 cq 14 (.bin .lss (.t 11) (.t 13))]
def c34_r6:CL:=[cm 17 0,
 cm 18 5,
 cq 19 (.ixi 1 (.t 17) (.t 18)),
 cq 20 (.ldi 1 false (.t 19)),
 cm 21 1,
 cm 22 5,
 cq 23 (.ixi 1 (.t 21) (.t 22)),
 cq 24 (.ldi 1 false (.t 23)),
 cq 25 (.bin .neq (.t 20) (.t 24))]
def c34_r7:CL:=[cq 4 (.mov (.bool false))]
def c34_r5:CL:=[cm 15 5,
 cq 16 (.bin .add (.t 15) (ci 1)),
 cm 5 16]
def c34_b0:AC:=.seq (cs c34_r4 (.cond (.t 14) (.skip) (.exit 0))) (.seq (.block 1 (.seq (.ops c34_r6 true) (.cond (.t 25) (cs c34_r7 (.ret)) (.skip)))) (co c34_r5))
def c34_r8:CL:=[cq 4 (.mov (.bool true))]
def c34:AFn:=⟨26,[.tmp 4],cs c34_r0 (.seq (cs c34_r1 (.cond (.t 10) (cs c34_r2 (.ret)) (.skip))) (.seq (cs c34_r3 (.block 0 (.loop c34_b0 [0,1,5] []))) (cs c34_r8 (.ret))))⟩
def c52_r0:CL:=[cq 4 (.mov (.bool false))]
def c52_r1:CL:=[cq 5 (.mov (ci 0))]
def c52_r2:CL:=[cm 6 5,
 cm 7 0,
 cq 8 (.len (.t 7)),
 cq 9 (.bin .lss (.t 6) (.t 8))]
def c52_r4:CL:=[cm 12 0,
 cm 13 5,
 cq 14 (.ixi 1 (.t 12) (.t 13)),
 cq 15 (.ldi 1 false (.t 14)),
 cm 16 1,
 cq 17 (.bin .eql (.t 15) (.t 16))]
def c52_r5:CL:=[cq 4 (.mov (.bool true))]
def c52_r3:CL:=[cm 10 5,
 cq 11 (.bin .add (.t 10) (ci 1)),
 cm 5 11]
def c52_b0:AC:=.seq (cs c52_r2 (.cond (.t 9) (.skip) (.exit 0))) (.seq (.block 1 (cs c52_r4 (.cond (.t 17) (cs c52_r5 (.ret)) (.skip)))) (co c52_r3))
def c52_r6:CL:=[cq 4 (.mov (.bool false))]
def c52:AFn:=⟨18,[.tmp 4],cs c52_r0 (.seq (cs c52_r1 (.block 0 (.loop c52_b0 [0,1,5] []))) (cs c52_r6 (.ret)))⟩
def c56_r0:CL:=[cq 0 (.mov (.bool false))]
def c56_r1:CL:=[cq 8 (.call 60 [] []),
 cq 1 (.alo 1 [.nil 5,.nil 5,ci 0,.nil 3,ci 0,ci 0,ci 0,.nil 4,ci 0,.nil 3,ci 0,ci 0]),
 cn (.sto 1 12 (.t 1) (.t 8))]
def c56_r2:CL:=[cq 10 (.ldo 1 12 true (.t 1)),
 cq 11 (.call 27 [.t 10] []),
 cm 9 11,
 cq 12 (.ext (.t 9) 0),
 cq 13 (.ext (.t 9) 1),
 cm 2 12,
 cm 3 13]
def c56_r3:CL:=[cq 15 (.fld 0 (.t 1)),
 cq 16 (.ldo 1 3 true (.t 15)),
 cq 17 (.call 57 [.t 16,ci 2] []),
 cm 14 17,
 cq 18 (.ext (.t 14) 0),
 cq 19 (.ext (.t 14) 1),
 cm 4 18,
 cm 5 19]
def c56_r4:CL:=[cq 21 (.fld 3 (.t 1)),
 cq 22 (.ldo 1 6 true (.t 21)),
 cq 23 (.call 115 [.t 22,ci 31,ci 0] []),
 cm 20 23,
 cq 24 (.ext (.t 20) 0),
 cq 25 (.ext (.t 20) 1),
 cq 6 (.alo 6 [ci 0,ci 0]),
 cn (.sto 6 2 (.t 6) (.t 24)),
 cm 7 25]
def c56_r5:CL:=[cm 26 3,
 cq 27 (.bin .eql (.t 26) (ci 0)),
 cm 28 27,
 cw 29 28 5,
 cu 30 28 (.bin .eql (.t 29) (ci 0)),
 cq 31 (.pick (.t 28) (.t 30) (.bool false)),
 cm 32 31,
 cw 33 32 7,
 cu 34 32 (.bin .eql (.t 33) (ci 0)),
 cq 35 (.pick (.t 32) (.t 34) (.bool false)),
 cm 36 35,
 cw 37 36 2,
 cu 38 36 (.bin .eql (.t 37) (ci 4)),
 cq 39 (.pick (.t 36) (.t 38) (.bool false)),
 cm 40 39,
 cw 41 40 4,
 cu 42 40 (.bsl 1 [.int .i64 (-1),ci 1]),
 cu 43 40 (.call 34 [.t 41,.t 42] []),
 cq 44 (.pick (.t 40) (.t 43) (.bool false)),
 cm 45 44,
 cu 46 45 (.ldo 6 2 true (.t 6)),
 cu 47 45 (.bld [ci 0,ci 0] [(0,1,ci 4636),(1,1,ci 5100)]),
 cu 48 45 (.yy (.eqs false 2 (.t 46) (.t 47))),
 cq 49 (.pick (.t 45) (.t 48) (.bool false)),
 cm 0 49]
def c56:AFn:=⟨50,[.tmp 0],cs c56_r0 (cs c56_r1 (cs c56_r2 (cs c56_r3 (cs c56_r4 (cs c56_r5 (.ret))))))⟩
def c57_r0:CL:=[cq 2 (.boxi (.t 0)),
 cq 3 (.boxi (.t 1)),
 cq 4 (.mov (.nil 1)),
 cq 5 (.mov (ci 0))]
def c57_r1:CL:=[cq 6 (.ldi 3 true (.t 2)),
 cq 7 (.ldi 1 false (.t 3)),
 cq 8 (.call 117 [.t 7] []),
 cq 9 (.yy (.mkf 118 [] [.t 3])),
 cq 10 (.call 116 [.t 6,.t 8,.t 9] []),
 cq 11 (.ext (.t 10) 0),
 cq 12 (.ext (.t 10) 1),
 cm 4 11,
 cm 5 12]
def c57:AFn:=⟨13,[.tmp 4,.tmp 5],cs c57_r0 (.seq (.ops c57_r1 true) (.ret))⟩
def c58_r0:CL:=[cq 6 (.mov (.bool false))]
def c58_r1:CL:=[cm 7 1,
 cm 8 0,
 cq 9 (.bin .leq (.t 7) (.t 8)),
 cm 10 9,
 cw 11 10 0,
 cw 12 10 2,
 cu 13 10 (.bin .leq (.t 11) (.t 12)),
 cq 14 (.pick (.t 10) (.t 13) (.bool false)),
 cm 6 14]
def c58:AFn:=⟨15,[.tmp 6],cs c58_r0 (cs c58_r1 (.ret))⟩
def c60_r0:CL:=[cq 0 (.alo 0 [.nil 5,.nil 5,ci 0,.nil 3,ci 0,ci 0,ci 0,.nil 4,ci 0,.nil 3,ci 0,ci 0])]
def c60_r1:CL:=[cq 5 (.callh 121 [] [6000]),
 cm 4 5,
 cq 6 (.ext (.t 4) 0),
 cq 7 (.ext (.t 4) 1),
 cq 8 (.ext (.t 4) 2),
 cq 1 (.alo 1 [.nil 5,.nil 5,ci 0]),
 cq 2 (.alo 2 [ci 0,ci 0,ci 0,ci 0,ci 0]),
 cq 3 (.alo 3 [ci 0,ci 0,ci 0,ci 0,ci 0]),
 cn (.sto 1 3 (.t 1) (.t 6)),
 cn (.sto 2 5 (.t 2) (.t 7)),
 cn (.sto 3 5 (.t 3) (.t 8))]
def c60_r2:CL:=[cq 9 (.fld 0 (.t 1)),
 cq 10 (.ldo 1 1 false (.t 9)),
 cq 11 (.bld [ci 0,ci 0,ci 0,ci 0,ci 0] [(0,1,ci 4)]),
 cq 12 (.bsl 5 [.t 11]),
 cq 13 (.app 6000 56 5 40 (.t 10) (.t 12)),
 cq 14 (.fld 0 (.t 1)),
 cn (.sto 1 1 (.t 14) (.t 13))]
def c60_r3:CL:=[cq 15 (.ldo 1 3 true (.t 1)),
 cq 16 (.call 122 [] []),
 cq 17 (.bld [ci 0,ci 0,ci 0] [(0,1,ci 30)]),
 cq 18 (.bld [ci 0,ci 0,ci 0] [(0,1,ci 31),(2,1,.int .i64 (-1))]),
 cq 19 (.bsl 3 [.t 17,.t 18]),
 cq 20 (.bld [.nil 5,.nil 5,ci 0,.nil 3,ci 0,ci 0,ci 0,.nil 4,ci 0,.nil 3,ci 0,ci 0] [(0,3,.t 15),(3,6,.t 16),(9,1,.t 19),(10,1,ci 4600),(11,1,ci 1)]),
 cn (.sto 0 12 (.t 0) (.t 20))]
def c60:AFn:=⟨21,[.cell 0 12 true],cs c60_r0 (cs c60_r1 (cs c60_r2 (.seq (.ops c60_r3 true) (.ret))))⟩
def c61_r0:CL:=[cq 1 (.boxi (.t 0)),
 cq 2 (.alo 2 [.nil 5,.nil 5,ci 0])]
def c61_r1:CL:=[cq 4 (.ldi 3 true (.t 1)),
 cq 3 (.alo 3 [.nil 5,.nil 5,ci 0]),
 cn (.sto 3 3 (.t 3) (.t 4))]
def c61_r2:CL:=[cq 5 (.bso 5 56 5 []),
 cq 6 (.fld 0 (.t 1)),
 cq 7 (.ldi 1 false (.t 6)),
 cq 8 (.app 5 56 5 40 (.t 5) (.t 7)),
 cq 9 (.bso 9 48 5 []),
 cq 10 (.fld 1 (.t 1)),
 cq 11 (.ldi 1 false (.t 10)),
 cq 12 (.app 9 48 5 40 (.t 9) (.t 11)),
 cq 13 (.fld 0 (.t 3)),
 cn (.sto 3 1 (.t 13) (.t 8)),
 cq 14 (.fld 1 (.t 3)),
 cn (.sto 3 1 (.t 14) (.t 12))]
def c61_r3:CL:=[cq 15 (.ldo 3 3 true (.t 3)),
 cn (.sto 2 3 (.t 2) (.t 15))]
def c62_r0:CL:=[cq 1 (.boxi (.t 0)),
 cq 2 (.alo 2 [.nil 3,ci 0,ci 0,ci 0,.nil 4,ci 0])]
def c62_r1:CL:=[cq 4 (.ldi 6 true (.t 1)),
 cq 3 (.alo 3 [.nil 3,ci 0,ci 0,ci 0,.nil 4,ci 0]),
 cn (.sto 3 6 (.t 3) (.t 4))]
def c62_r2:CL:=[cq 5 (.bso 5 113 3 []),
 cq 6 (.fld 0 (.t 1)),
 cq 7 (.ldi 1 false (.t 6)),
 cq 8 (.app 5 113 3 24 (.t 5) (.t 7)),
 cq 9 (.bso 9 50 4 []),
 cq 10 (.fld 4 (.t 1)),
 cq 11 (.ldi 1 false (.t 10)),
 cq 12 (.app 9 50 4 32 (.t 9) (.t 11)),
 cq 13 (.fld 0 (.t 3)),
 cn (.sto 3 1 (.t 13) (.t 8)),
 cq 14 (.fld 4 (.t 3)),
 cn (.sto 3 1 (.t 14) (.t 12))]
def c62_r3:CL:=[cq 15 (.ldo 3 6 true (.t 3)),
 cn (.sto 2 6 (.t 2) (.t 15))]
def c62:AFn:=⟨16,[.cell 2 6 true],cs c62_r0 (cs c62_r1 (.seq (.ops c62_r2 true) (cs c62_r3 (.ret))))⟩
def c63_r0:CL:=[cq 2 (.boxi (.t 0)),
 cq 4 (.mov (.nilp)),
 cq 5 (.mov (ci 0))]
def c63_r1:CL:=[cq 8 (.ldi 12 true (.t 2)),
 cq 9 (.call 25 [.t 8] []),
 cm 6 9]
def c63_r2:CL:=[cm 10 6,
 cq 11 (.bin .neq (.t 10) (ci 0))]
def c63_r3:CL:=[cm 12 6,
 cq 4 (.mov (.nilp)),
 cm 5 12]
def c63_r4:CL:=[cm 13 1,
 cq 14 (.not (.t 13))]
def c63_r5:CL:=[cq 4 (.mov (.nilp)),
 cq 5 (.mov (ci 1))]
def c63_r6:CL:=[cq 15 (.ldi 12 true (.t 2)),
 cq 16 (.bld [.nil 5,.nil 5,ci 0,.nil 3,ci 0,ci 0,ci 0,.nil 4,ci 0,.nil 3,ci 0,ci 0,.nilv 3,.nilv 1] [(0,12,.t 15)]),
 cq 17 (.boxo 17 (.t 16)),
 cq 7 (.alo 7 [.nilp]),
 cn (.sto 7 1 (.t 7) (.t 17))]
def c63_r7:CL:=[cq 18 (.fld 0 (.t 2)),
 cq 19 (.ldi 3 true (.t 18)),
 cq 20 (.yy (.mkf 124 [] [.t 7,.t 2])),
 cq 21 (.callh 123 [.t 19,.t 20] [7,17,18012,18013])]
def c63_r8:CL:=[cq 22 (.fld 3 (.t 2)),
 cq 23 (.ldi 6 true (.t 22)),
 cq 24 (.yy (.mkf 127 [] [.t 2,.t 7])),
 cq 25 (.callh 126 [.t 23,ci 0,.t 24] [7,17,18012,18013])]
def c63_r9:CL:=[cq 26 (.ldo 7 1 false (.t 7)),
 cq 27 (.nilc (.t 26)),
 cq 28 (.fld 12 (.t 27)),
 cq 29 (.ldo 17 1 false (.t 28)),
 cq 30 (.leno 18012 (.t 29)),
 cq 31 (.bin .eql (.t 30) (ci 0)),
 cm 32 31,
 cv 33 32 (.ldo 7 1 false (.t 7)),
 cv 34 32 (.nilc (.t 33)),
 cv 35 32 (.fld 13 (.t 34)),
 cv 36 32 (.ldo 17 1 false (.t 35)),
 cv 37 32 (.leno 18013 (.t 36)),
 cv 38 32 (.bin .eql (.t 37) (ci 0)),
 cq 39 (.pick (.t 32) (.bool true) (.t 38))]
def c63_r10:CL:=[cq 4 (.mov (.nilp)),
 cq 5 (.mov (ci 3))]
def c63_r11:CL:=[cq 40 (.ldo 7 1 false (.t 7)),
 cm 4 40,
 cq 5 (.mov (ci 0))]
def c63:AFn:=⟨41,[.tmp 4,.tmp 5],cs c63_r0 (.seq (cs c63_r1 (cs c63_r2 (.cond (.t 11) (cs c63_r3 (.ret)) (.skip)))) (.seq (cs c63_r4 (.cond (.t 14) (cs c63_r5 (.ret)) (.skip))) (cs c63_r6 (.gh 18012 17 12 97 3 (.gh 18013 17 13 98 1 (cs c63_r7 (cs c63_r8 (.seq (cs c63_r9 (.cond (.t 39) (cs c63_r10 (.ret)) (.skip))) (cs c63_r11 (.ret))))))))))⟩
def c64_r0:CL:=[cm 8 0,
 cq 9 (.nilc (.t 8)),
 cq 10 (.fld 12 (.t 9)),
 cq 11 (.ldi 1 false (.t 10)),
 cq 12 (.len (.t 11)),
 cq 13 (.mov (ci 0))]
def c64_r1:CL:=[cq 14 (.bin .lss (.t 13) (.t 12))]
def c64_r2:CL:=[cq 15 (.ixi 3 (.t 11) (.t 13)),
 cq 16 (.ldi 3 true (.t 15)),
 cq 5 (.alo 5 [.nil 1,.nil 1,.nil 1]),
 cn (.sto 5 3 (.t 5) (.t 16))]
def c64_r3:CL:=[cm 17 0,
 cq 18 (.nilc (.t 17)),
 cq 19 (.fld 13 (.t 18)),
 cq 20 (.ldi 1 false (.t 19)),
 cq 21 (.len (.t 20)),
 cq 22 (.mov (ci 0))]
def c64_r4:CL:=[cq 23 (.bin .lss (.t 22) (.t 21))]
def c64_r5:CL:=[cq 24 (.ixi 1 (.t 20) (.t 22)),
 cq 25 (.ldi 1 false (.t 24)),
 cm 7 25]
def c64_r6:CL:=[cm 26 1,
 cq 27 (.ldo 5 3 true (.t 5)),
 cm 28 7,
 cq 29 (.bld [.nil 1,.nil 1,.nil 1,.nil 2] [(0,3,.t 27),(3,1,.t 28)]),
 cq 30 (.callb (.t 26) [.t 29] 0),
 cq 31 (.not (.t 30))]
def c64_r7:CL:=[cq 32 (.bin .add (.t 22) (ci 1)),
 cm 22 32]
def c64_b0:AC:=cs c64_r4 (.seq (.cond (.t 23) (.skip) (.exit 2)) (.seq (.block 3 (cs c64_r5 (cs c64_r6 (.cond (.t 31) (.ret) (.skip))))) (co c64_r7)))
def c64_r8:CL:=[cq 33 (.bin .add (.t 13) (ci 1)),
 cm 13 33]
def c64_b1:AC:=cs c64_r1 (.seq (.cond (.t 14) (.skip) (.exit 0)) (.seq (.block 1 (cs c64_r2 (cs c64_r3 (.block 2 (.loop c64_b0 [0,1,5,11,12,13,20,21,22] [0,5]))))) (co c64_r8)))
def c64:AFn:=⟨34,[],cs c64_r0 (.block 0 (.loop c64_b1 [0,1,11,12,13] [0]))⟩
def c65_r0:CL:=[cq 2 (.boxi (.t 0)),
 cq 4 (.mov (ci 0))]
def c65_r1:CL:=[cq 5 (.mov (ci 0))]
def c65_r2:CL:=[cq 7 (.fld 3 (.t 2)),
 cq 8 (.ldi 1 false (.t 7)),
 cq 9 (.len (.t 8)),
 cq 10 (.mov (ci 0))]
def c65_r3:CL:=[cq 11 (.bin .lss (.t 10) (.t 9))]
def c65_r4:CL:=[cm 12 10,
 cm 6 12]
def c65_r5:CL:=[cq 13 (.ldi 4 true (.t 2)),
 cm 14 6,
 cm 15 1,
 cq 16 (.call 102 [.t 13,.t 14,.t 15] [])]
def c65_r6:CL:=[cm 17 5,
 cq 18 (.bin .add (.t 17) (ci 1)),
 cm 5 18]
def c65_r7:CL:=[cq 19 (.bin .add (.t 10) (ci 1)),
 cm 10 19]
def c65_b0:AC:=cs c65_r3 (.seq (.cond (.t 11) (.skip) (.exit 0)) (.seq (.block 1 (cs c65_r4 (cs c65_r5 (.cond (.t 16) (co c65_r6) (.skip))))) (co c65_r7)))
def c65_r8:CL:=[cm 20 5,
 cm 4 20]
def c65:AFn:=⟨21,[.tmp 4],cs c65_r0 (cs c65_r1 (.seq (cs c65_r2 (.block 0 (.loop c65_b0 [1,2,5,9,10] []))) (cs c65_r8 (.ret))))⟩
def c66_r0:CL:=[cq 3 (.boxi (.t 0)),
 cq 6 (.mov (ci 0)),
 cq 7 (.mov (ci 0))]
def c66_r1:CL:=[cq 11 (.ldi 12 true (.t 3)),
 cm 12 1,
 cq 13 (.call 63 [.t 11,.t 12] []),
 cm 10 13,
 cq 14 (.ext (.t 10) 0),
 cq 15 (.ext (.t 10) 1),
 cm 8 14,
 cm 9 15]
def c66_r2:CL:=[cm 16 9,
 cq 17 (.bin .neq (.t 16) (ci 0))]
def c66_r3:CL:=[cm 18 9,
 cq 6 (.mov (ci 0)),
 cm 7 18]
def c66_r4:CL:=[cm 19 8,
 cm 20 2,
 cq 21 (.call 75 [.t 19,.t 20] []),
 cm 6 21,
 cq 7 (.mov (ci 0))]
def c66:AFn:=⟨22,[.tmp 6,.tmp 7],cs c66_r0 (cs c66_r1 (.seq (cs c66_r2 (.cond (.t 17) (cs c66_r3 (.ret)) (.skip))) (cs c66_r4 (.ret))))⟩
def c67_r0:CL:=[cq 6 (.mov (.bool false))]
def c67_r1:CL:=[cm 7 1,
 cm 8 0,
 cq 9 (.bin .leq (.t 7) (.t 8)),
 cm 10 9,
 cw 11 10 0,
 cw 12 10 2,
 cu 13 10 (.bin .leq (.t 11) (.t 12)),
 cq 14 (.pick (.t 10) (.t 13) (.bool false)),
 cm 6 14]
def c67:AFn:=⟨15,[.tmp 6],cs c67_r0 (cs c67_r1 (.ret))⟩
def c70_r0:CL:=[cq 2 (.boxi (.t 0)),
 cq 4 (.mov (.int .u64 0))]
def c70_r1:CL:=[cq 5 (.mov (.int .u64 0))]
def c70_r2:CL:=[cq 9 (.fld 0 (.t 2)),
 cq 10 (.fld 0 (.t 9)),
 cq 11 (.ldi 1 false (.t 10)),
 cq 12 (.len (.t 11)),
 cq 13 (.mov (ci 0))]
def c70_r3:CL:=[cq 14 (.bin .lss (.t 13) (.t 12))]
def c70_r4:CL:=[cm 15 13,
 cq 16 (.ixi 1 (.t 11) (.t 13)),
 cq 17 (.ldi 1 false (.t 16)),
 cm 6 15,
 cm 7 17]
def c70_r5:CL:=[cq 18 (.fld 3 (.t 2)),
 cq 19 (.ldi 1 false (.t 18)),
 cm 20 6,
 cq 21 (.ixi 2 (.t 19) (.t 20)),
 cq 22 (.fld 0 (.t 21)),
 cq 23 (.ldi 1 false (.t 22)),
 cm 24 1,
 cq 25 (.bin .lss (.t 23) (.t 24))]
def c70_r6:CL:=[cq 26 (.fld 0 (.t 2)),
 cq 27 (.fld 1 (.t 26)),
 cq 28 (.ldi 1 false (.t 27)),
 cm 29 6,
 cq 30 (.ixi 1 (.t 28) (.t 29)),
 cq 31 (.ldi 1 false (.t 30)),
 cm 8 31]
def c70_r7:CL:=[cm 32 8,
 cq 33 (.bin .geq (.t 32) (ci 0))]
def c70_r8:CL:=[cm 34 7,
 cm 35 8,
 cq 36 (.bin .shl (.int .u64 1) (.t 35)),
 cq 37 (.bin .andNot (.t 34) (.t 36)),
 cm 7 37]
def c70_r9:CL:=[cm 38 5,
 cm 39 7,
 cq 40 (.bin .or (.t 38) (.t 39)),
 cm 5 40]
def c70_r10:CL:=[cq 41 (.bin .add (.t 13) (ci 1)),
 cm 13 41]
def c70_b0:AC:=cs c70_r3 (.seq (.cond (.t 14) (.skip) (.exit 0)) (.seq (.block 1 (cs c70_r4 (.seq (cs c70_r5 (.cond (.t 25) (.exit 1) (.skip))) (.seq (cs c70_r6 (cs c70_r7 (.cond (.t 33) (co c70_r8) (.skip)))) (co c70_r9))))) (co c70_r10)))
def c70_r11:CL:=[cm 42 5,
 cm 4 42]
def c70:AFn:=⟨43,[.tmp 4],cs c70_r0 (cs c70_r1 (.seq (cs c70_r2 (.block 0 (.loop c70_b0 [1,2,5,11,12,13] []))) (cs c70_r11 (.ret))))⟩
def c71_r0:CL:=[cq 4 (.mov (.bool false))]
def c71_r1:CL:=[cm 5 0,
 cm 6 1,
 cq 7 (.bin .shr (.t 5) (.t 6)),
 cq 8 (.bin .and (.t 7) (.int .u64 1)),
 cq 9 (.bin .eql (.t 8) (.int .u64 1)),
 cm 4 9]
def c71:AFn:=⟨10,[.tmp 4],cs c71_r0 (cs c71_r1 (.ret))⟩
def c72_r0:CL:=[cq 2 (.boxi (.t 0)),
 cq 3 (.mov (.bool false))]
def c72_r1:CL:=[cq 4 (.ldi 4 true (.t 2)),
 cq 5 (.fld 10 (.t 1)),
 cq 6 (.ldi 1 false (.t 5)),
 cq 7 (.fld 11 (.t 1)),
 cq 8 (.ldi 1 false (.t 7)),
 cq 9 (.call 73 [.t 4,.t 6,.t 8] []),
 cm 3 9]
def c72:AFn:=⟨10,[.tmp 3],cs c72_r0 (cs c72_r1 (.ret))⟩
def c73_r0:CL:=[cq 3 (.boxi (.t 0)),
 cq 6 (.mov (.bool false))]
def c73_r1:CL:=[cq 9 (.ldi 4 true (.t 3)),
 cm 10 1,
 cq 11 (.call 70 [.t 9,.t 10] []),
 cq 7 (.alo 7 [.int .u64 0]),
 cn (.sto 7 1 (.t 7) (.t 11))]
def c73_r2:CL:=[cq 12 (.yy (.mkf 128 [] [.t 7])),
 cm 8 12]
def c73_r3:CL:=[cq 13 (.ldi 4 true (.t 3)),
 cm 14 1,
 cq 15 (.call 65 [.t 13,.t 14] []),
 cm 16 2,
 cq 17 (.bin .lss (.t 15) (.t 16)),
 cm 18 17,
 cu 19 18 (.fld 0 (.t 3)),
 cu 20 18 (.fld 2 (.t 19)),
 cu 21 18 (.ldi 1 false (.t 20)),
 cw 22 18 8,
 cu 23 18 (.call 129 [.t 21,.t 22] [7]),
 cu 24 18 (.not (.t 23)),
 cq 25 (.pick (.t 18) (.t 24) (.bool false)),
 cm 6 25]
def c73:AFn:=⟨26,[.tmp 6],cs c73_r0 (cs c73_r1 (cs c73_r2 (cs c73_r3 (.ret))))⟩
def c74_r0:CL:=[cq 3 (.boxi (.t 0)),
 cq 4 (.mov (.bool false))]
def c74_r1:CL:=[cq 5 (.ldi 1 false (.t 1)),
 cq 6 (.yy (.mkf 76 [] [.t 3,.t 2])),
 cq 7 (.call 75 [.t 5,.t 6] []),
 cq 8 (.bin .eql (.t 7) (ci 1)),
 cm 4 8]
def c74:AFn:=⟨9,[.tmp 4],cs c74_r0 (cs c74_r1 (.ret))⟩
def c75_r0:CL:=[cq 3 (.boxi (.t 1)),
 cq 4 (.mov (ci 0))]
def c75_r1:CL:=[cq 5 (.alo 5 [ci 0]),
 cq 6 (.alo 6 [ci 0]),
 cn (.sto 5 1 (.t 5) (ci 0)),
 cn (.sto 6 1 (.t 6) (ci 0))]
def c75_r2:CL:=[cm 8 0,
 cq 9 (.yy (.mkf 64 [.t 8] []))]
def c75_r3:CL:=[cq 7 (.alo 7 [.nil 1,.nil 1,.nil 1,.nil 2]),
 cn (.sto 7 4 (.t 7) (.t 10))]
def c75_r4:CL:=[cq 11 (.ldi 1 false (.t 3)),
 cq 12 (.ldo 7 4 true (.t 7)),
 cq 13 (.calld (.t 11) [.t 12] [])]
def c75_r5:CL:=[cq 14 (.ldo 5 1 false (.t 5)),
 cq 15 (.bin .add (.t 14) (ci 1)),
 cn (.sto 5 1 (.t 5) (.t 15))]
def c75_r6:CL:=[cq 16 (.ldo 6 1 false (.t 6)),
 cq 17 (.bin .add (.t 16) (ci 1)),
 cn (.sto 6 1 (.t 6) (.t 17))]
def c75_b0a:AC:=.ops c75_r3 false
def c75_b0:AC:=.block 1 (cs c75_r4 (.cond (.t 13) (co c75_r5) (co c75_r6)))
def c75_r7:CL:=[cq 19 (.ldo 6 1 false (.t 6)),
 cq 20 (.bin .eql (.t 19) (ci 0)),
 cm 18 20]
def c75_r8:CL:=[cq 4 (.mov (ci 1))]
def c75_r9:CL:=[cq 22 (.ldo 5 1 false (.t 5)),
 cq 23 (.bin .eql (.t 22) (ci 0)),
 cm 21 23]
def c75_r10:CL:=[cq 4 (.mov (ci 2))]
def c75_r11:CL:=[cq 4 (.mov (ci 3))]
def c75:AFn:=⟨24,[.tmp 4],cs c75_r0 (cs c75_r1 (.seq (cs c75_r2 (.block 0 (.range (.t 9) [10] c75_b0a c75_b0 [3,5,6] [5,6]))) (.seq (.block 2 (cs c75_r7 (.cond (.t 18) (cs c75_r8 (.ret)) (cs c75_r9 (.cond (.t 21) (cs c75_r10 (.ret)) (.skip)))))) (cs c75_r11 (.ret)))))⟩
def c76_r0:CL:=[cq 3 (.boxi (.t 0)),
 cq 4 (.mov (.bool false))]
def c76_r1:CL:=[cq 5 (.ldi 4 true (.t 3)),
 cq 6 (.ldi 1 false (.t 1)),
 cq 7 (.fld 11 (.t 2)),
 cq 8 (.ldi 1 false (.t 7)),
 cq 9 (.call 73 [.t 5,.t 6,.t 8] []),
 cm 4 9]
def c76:AFn:=⟨10,[.tmp 4],cs c76_r0 (cs c76_r1 (.ret))⟩
def c78_r0:CL:=[cq 1 (.boxi (.t 0)),
 cq 2 (.mov (.bool false))]
def c78_r1:CL:=[cq 5 (.fld 0 (.t 1)),
 cq 6 (.ldi 1 false (.t 5)),
 cq 7 (.len (.t 6)),
 cq 8 (.bin .gtr (.t 7) (ci 40)),
 cm 9 8,
 cv 10 9 (.fld 1 (.t 1)),
 cv 11 9 (.ldi 1 false (.t 10)),
 cv 12 9 (.len (.t 11)),
 cv 13 9 (.bin .gtr (.t 12) (ci 40)),
 cq 14 (.pick (.t 9) (.bool true) (.t 13))]
def c78_r2:CL:=[cq 2 (.mov (.bool true))]
def c78_r3:CL:=[cq 15 (.ldi 3 true (.t 1)),
 cq 16 (.call 85 [.t 15] []),
 cq 17 (.bin .neq (.t 16) (ci 0))]
def c78_r4:CL:=[cq 2 (.mov (.bool false))]
def c78_r5:CL:=[cq 3 (.mov (ci 0))]
def c78_r6:CL:=[cq 4 (.mov (ci 0))]
def c78_r7:CL:=[cm 18 4,
 cq 19 (.fld 0 (.t 1)),
 cq 20 (.ldi 1 false (.t 19)),
 cq 21 (.len (.t 20)),
 cq 22 (.bin .lss (.t 18) (.t 21))]
def c78_r9:CL:=[cq 25 (.fld 0 (.t 1)),
 cq 26 (.ldi 1 false (.t 25)),
 cm 27 4,
 cq 28 (.ixi 5 (.t 26) (.t 27)),
 cq 29 (.fld 2 (.t 28)),
 cq 30 (.ldi 1 false (.t 29)),
 cq 31 (.bin .eql (.t 30) (ci 2))]
def c78_r10:CL:=[cm 32 3,
 cq 33 (.bin .add (.t 32) (ci 1)),
 cm 3 33]
def c78_r8:CL:=[cm 23 4,
 cq 24 (.bin .add (.t 23) (ci 1)),
 cm 4 24]
def c78_b0:AC:=.seq (cs c78_r7 (.cond (.t 22) (.skip) (.exit 0))) (.seq (.block 1 (cs c78_r9 (.cond (.t 31) (co c78_r10) (.skip)))) (co c78_r8))
def c78_r11:CL:=[cm 34 3,
 cq 35 (.bin .gtr (.t 34) (ci 5)),
 cm 2 35]
def c78:AFn:=⟨36,[.tmp 2],cs c78_r0 (.seq (cs c78_r1 (.cond (.t 14) (cs c78_r2 (.ret)) (.skip))) (.seq (cs c78_r3 (.cond (.t 17) (cs c78_r4 (.ret)) (.skip))) (cs c78_r5 (.seq (cs c78_r6 (.block 0 (.loop c78_b0 [1,3,4] []))) (cs c78_r11 (.ret))))))⟩
def c79_r0:CL:=[cq 1 (.boxi (.t 0)),
 cq 2 (.mov (.bool false))]
def c79_r1:CL:=[cq 5 (.fld 0 (.t 1)),
 cq 6 (.ldi 1 false (.t 5)),
 cq 7 (.len (.t 6)),
 cq 8 (.bin .gtr (.t 7) (ci 40)),
 cm 9 8,
 cv 10 9 (.fld 4 (.t 1)),
 cv 11 9 (.ldi 1 false (.t 10)),
 cv 12 9 (.len (.t 11)),
 cv 13 9 (.bin .gtr (.t 12) (ci 40)),
 cq 14 (.pick (.t 9) (.bool true) (.t 13))]
def c79_r2:CL:=[cq 2 (.mov (.bool true))]
def c79_r3:CL:=[cq 15 (.ldi 6 true (.t 1)),
 cq 16 (.call 86 [.t 15] []),
 cq 17 (.bin .neq (.t 16) (ci 0))]
def c79_r4:CL:=[cq 2 (.mov (.bool false))]
def c79_r5:CL:=[cq 18 (.fld 2 (.t 1)),
 cq 19 (.fld 1 (.t 18)),
 cq 20 (.ldi 1 false (.t 19)),
 cq 21 (.fld 2 (.t 1)),
 cq 22 (.fld 0 (.t 21)),
 cq 23 (.ldi 1 false (.t 22)),
 cq 24 (.bin .sub (.t 20) (.t 23)),
 cq 25 (.bin .add (.t 24) (ci 1)),
 cm 3 25]
def c79_r6:CL:=[cq 4 (.mov (ci 0))]
def c79_r7:CL:=[cm 26 4,
 cq 27 (.fld 0 (.t 1)),
 cq 28 (.ldi 1 false (.t 27)),
 cq 29 (.len (.t 28)),
 cq 30 (.bin .lss (.t 26) (.t 29))]
def c79_r9:CL:=[cm 33 3,
 cq 34 (.fld 0 (.t 1)),
 cq 35 (.ldi 1 false (.t 34)),
 cm 36 4,
 cq 37 (.ixi 3 (.t 35) (.t 36)),
 cq 38 (.fld 1 (.t 37)),
 cq 39 (.fld 1 (.t 38)),
 cq 40 (.ldi 1 false (.t 39)),
 cq 41 (.fld 0 (.t 1)),
 cq 42 (.ldi 1 false (.t 41)),
 cm 43 4,
 cq 44 (.ixi 3 (.t 42) (.t 43)),
 cq 45 (.fld 1 (.t 44)),
 cq 46 (.fld 0 (.t 45)),
 cq 47 (.ldi 1 false (.t 46)),
 cq 48 (.bin .sub (.t 40) (.t 47)),
 cq 49 (.bin .add (.t 48) (ci 1)),
 cq 50 (.bin .mul (.t 33) (.t 49)),
 cm 3 50]
def c79_r10:CL:=[cm 51 3,
 cq 52 (.bin .gtr (.t 51) (ci 150))]
def c79_r11:CL:=[cq 2 (.mov (.bool true))]
def c79_r8:CL:=[cm 31 4,
 cq 32 (.bin .add (.t 31) (ci 1)),
 cm 4 32]
def c79_b0:AC:=.seq (cs c79_r7 (.cond (.t 30) (.skip) (.exit 0))) (.seq (.block 1 (.seq (.ops c79_r9 true) (cs c79_r10 (.cond (.t 52) (cs c79_r11 (.ret)) (.skip))))) (co c79_r8))
def c79_r12:CL:=[cq 2 (.mov (.bool false))]
def c79:AFn:=⟨53,[.tmp 2],cs c79_r0 (.seq (cs c79_r1 (.cond (.t 14) (cs c79_r2 (.ret)) (.skip))) (.seq (cs c79_r3 (.cond (.t 17) (cs c79_r4 (.ret)) (.skip))) (cs c79_r5 (.seq (cs c79_r6 (.block 0 (.loop c79_b0 [1,3,4] []))) (cs c79_r12 (.ret))))))⟩
def c80_r0:CL:=[cq 1 (.boxi (.t 0)),
 cq 2 (.mov (ci 0))]
def c80_r1:CL:=[cq 8 (.fld 0 (.t 1)),
 cq 9 (.ldi 1 false (.t 8)),
 cq 10 (.len (.t 9)),
 cq 11 (.bin .gtr (.t 10) (ci 12)),
 cm 12 11,
 cv 13 12 (.fld 1 (.t 1)),
 cv 14 12 (.ldi 1 false (.t 13)),
 cv 15 12 (.len (.t 14)),
 cv 16 12 (.bin .gtr (.t 15) (ci 8)),
 cq 17 (.pick (.t 12) (.bool true) (.t 16)),
 cm 18 17,
 cv 19 18 (.fld 2 (.t 1)),
 cv 20 18 (.ldi 1 false (.t 19)),
 cv 21 18 (.call 130 [.t 20,ci 0,ci 8] []),
 cv 22 18 (.not (.t 21)),
 cq 23 (.pick (.t 18) (.bool true) (.t 22))]
def c80_r2:CL:=[cq 2 (.mov (ci 20))]
def c80_r3:CL:=[cq 24 (.bso 24 3 1 [ci 0]),
 cm 3 24]
def c80_r4:CL:=[cq 25 (.fld 0 (.t 1)),
 cq 26 (.ldi 1 false (.t 25)),
 cq 27 (.len (.t 26)),
 cq 28 (.mov (ci 0))]
def c80_r5:CL:=[cq 29 (.bin .lss (.t 28) (.t 27))]
def c80_r6:CL:=[cm 30 28,
 cq 31 (.ixi 5 (.t 26) (.t 28)),
 cq 32 (.ldi 5 true (.t 31)),
 cq 5 (.alo 5 [ci 0,ci 0,ci 0,ci 0,ci 0]),
 cm 4 30,
 cn (.sto 5 5 (.t 5) (.t 32))]
def c80_r7:CL:=[cq 33 (.ldo 5 5 true (.t 5)),
 cm 34 3,
 cm 35 4,
 cq 36 (.ixo 24 1 (.t 34) (.t 35)),
 cq 37 (.ldo 24 1 false (.t 36)),
 cq 38 (.call 131 [.t 33,.t 37] []),
 cq 39 (.not (.t 38))]
def c80_r8:CL:=[cq 2 (.mov (ci 20))]
def c80_r9:CL:=[cm 40 3,
 cm 41 3,
 cm 42 4,
 cq 43 (.ixo 24 1 (.t 41) (.t 42)),
 cq 44 (.ldo 24 1 false (.t 43)),
 cq 45 (.ldo 5 5 true (.t 5)),
 cq 46 (.call 132 [.t 45] []),
 cq 47 (.bin .add (.t 44) (.t 46)),
 cq 48 (.bsl 1 [.t 47]),
 cq 49 (.app 24 3 1 8 (.t 40) (.t 48)),
 cm 3 49]
def c80_r10:CL:=[cq 50 (.bin .add (.t 28) (ci 1)),
 cm 28 50]
def c80_b0:AC:=cs c80_r5 (.seq (.cond (.t 29) (.skip) (.exit 0)) (.seq (.block 1 (cs c80_r6 (.seq (.seq (.ops c80_r7 true) (.cond (.t 39) (cs c80_r8 (.ret)) (.skip))) (.ops c80_r9 true)))) (co c80_r10)))
def c80_r11:CL:=[cq 51 (.fld 1 (.t 1)),
 cq 52 (.ldi 1 false (.t 51)),
 cq 53 (.len (.t 52)),
 cq 54 (.mov (ci 0))]
def c80_r12:CL:=[cq 55 (.bin .lss (.t 54) (.t 53))]
def c80_r13:CL:=[cq 56 (.ixi 5 (.t 52) (.t 54)),
 cq 57 (.ldi 5 true (.t 56)),
 cq 7 (.alo 7 [ci 0,ci 0,ci 0,ci 0,ci 0]),
 cn (.sto 7 5 (.t 7) (.t 57))]
def c80_r14:CL:=[cq 58 (.fld 0 (.t 7)),
 cq 59 (.ldo 7 1 false (.t 58)),
 cq 60 (.fld 0 (.t 1)),
 cq 61 (.ldi 1 false (.t 60)),
 cq 62 (.len (.t 61)),
 cq 63 (.call 130 [.t 59,ci 0,.t 62] []),
 cq 64 (.not (.t 63)),
 cm 65 64,
 cv 66 65 (.fld 2 (.t 7)),
 cv 67 65 (.ldo 7 1 false (.t 66)),
 cv 68 65 (.call 130 [.t 67,ci 0,ci 1] []),
 cv 69 65 (.not (.t 68)),
 cq 70 (.pick (.t 65) (.bool true) (.t 69)),
 cm 71 70,
 cv 72 71 (.fld 1 (.t 7)),
 cv 73 71 (.ldo 7 1 false (.t 72)),
 cx 74 71 3,
 cv 75 71 (.fld 0 (.t 7)),
 cv 76 71 (.ldo 7 1 false (.t 75)),
 cv 77 71 (.ixo 24 1 (.t 74) (.t 76)),
 cv 78 71 (.ldo 24 1 false (.t 77)),
 cv 79 71 (.bin .sub (.t 78) (ci 1)),
 cv 80 71 (.call 130 [.t 73,ci 0,.t 79] []),
 cv 81 71 (.not (.t 80)),
 cq 82 (.pick (.t 71) (.bool true) (.t 81)),
 cm 83 82,
 cv 84 83 (.fld 3 (.t 7)),
 cv 85 83 (.ldo 7 1 false (.t 84)),
 cv 86 83 (.fld 4 (.t 7)),
 cv 87 83 (.ldo 7 1 false (.t 86)),
 cv 88 83 (.call 133 [.t 85,.t 87,.int .i64 (-1)] []),
 cv 89 83 (.not (.t 88)),
 cq 90 (.pick (.t 83) (.bool true) (.t 89))]
def c80_r15:CL:=[cq 2 (.mov (ci 20))]
def c80_r16:CL:=[cq 91 (.bin .add (.t 54) (ci 1)),
 cm 54 91]
def c80_b1:AC:=cs c80_r12 (.seq (.cond (.t 55) (.skip) (.exit 2)) (.seq (.block 3 (cs c80_r13 (.seq (.ops c80_r14 true) (.cond (.t 90) (cs c80_r15 (.ret)) (.skip))))) (co c80_r16)))
def c80_r17:CL:=[cq 2 (.mov (ci 0))]
def c80:AFn:=⟨92,[.tmp 2],cs c80_r0 (.seq (cs c80_r1 (.cond (.t 23) (cs c80_r2 (.ret)) (.skip))) (cs c80_r3 (.seq (cs c80_r4 (.block 0 (.loop c80_b0 [1,3,26,27,28] [24]))) (.seq (cs c80_r11 (.block 2 (.loop c80_b1 [1,3,52,53,54] [24]))) (cs c80_r17 (.ret))))))⟩
theorem c25_ok:FnOk Tryz.prog 25 c25:=⟨_,Tryz.func25,by kernel_rfl⟩
theorem c26_ok:FnOk Tryz.prog 26 c26:=⟨_,Tryz.func26,by kernel_rfl⟩
theorem c27_ok:FnOk Tryz.prog 27 c27:=⟨_,Tryz.func27,by kernel_rfl⟩
theorem c31_ok:FnOk Tryz.prog 31 c31:=⟨_,Tryz.func31,by kernel_rfl⟩
theorem c34_ok:FnOk Tryz.prog 34 c34:=⟨_,Tryz.func34,by kernel_rfl⟩
theorem c52_ok:FnOk Tryz.prog 52 c52:=⟨_,Tryz.func52,by kernel_rfl⟩
theorem c56_ok:FnOk Tryz.prog 56 c56:=⟨_,Tryz.func56,by kernel_rfl⟩
theorem c57_ok:FnOk Tryz.prog 57 c57:=⟨_,Tryz.func57,by kernel_rfl⟩
theorem c58_ok:FnOk Tryz.prog 58 c58:=⟨_,Tryz.func58,by kernel_rfl⟩
theorem c60_ok:FnOk Tryz.prog 60 c60:=⟨_,Tryz.func60,by kernel_rfl⟩
theorem c62_ok:FnOk Tryz.prog 62 c62:=⟨_,Tryz.func62,by kernel_rfl⟩
theorem c63_ok:FnOk Tryz.prog 63 c63:=⟨_,Tryz.func63,by kernel_rfl⟩
theorem c64_ok:FnOk Tryz.prog 64 c64:=⟨_,Tryz.func64,by kernel_rfl⟩
theorem c65_ok:FnOk Tryz.prog 65 c65:=⟨_,Tryz.func65,by kernel_rfl⟩
theorem c66_ok:FnOk Tryz.prog 66 c66:=⟨_,Tryz.func66,by kernel_rfl⟩
theorem c67_ok:FnOk Tryz.prog 67 c67:=⟨_,Tryz.func67,by kernel_rfl⟩
theorem c70_ok:FnOk Tryz.prog 70 c70:=⟨_,Tryz.func70,by kernel_rfl⟩
theorem c71_ok:FnOk Tryz.prog 71 c71:=⟨_,Tryz.func71,by kernel_rfl⟩
theorem c72_ok:FnOk Tryz.prog 72 c72:=⟨_,Tryz.func72,by kernel_rfl⟩
theorem c73_ok:FnOk Tryz.prog 73 c73:=⟨_,Tryz.func73,by kernel_rfl⟩
theorem c74_ok:FnOk Tryz.prog 74 c74:=⟨_,Tryz.func74,by kernel_rfl⟩
theorem c75_ok:FnOk Tryz.prog 75 c75:=⟨_,Tryz.func75,by kernel_rfl⟩
theorem c76_ok:FnOk Tryz.prog 76 c76:=⟨_,Tryz.func76,by kernel_rfl⟩
theorem c78_ok:FnOk Tryz.prog 78 c78:=⟨_,Tryz.func78,by kernel_rfl⟩
theorem c79_ok:FnOk Tryz.prog 79 c79:=⟨_,Tryz.func79,by kernel_rfl⟩
theorem c80_ok:FnOk Tryz.prog 80 c80:=⟨_,Tryz.func80,by kernel_rfl⟩
end Go.Pf
