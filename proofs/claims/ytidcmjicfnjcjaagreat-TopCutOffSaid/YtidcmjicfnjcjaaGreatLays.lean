/- The shelf's contracts laid at this program's functions (by the kit's lay-plain.mjs). -/
import Derived.Shelf.SlGeneric
import Derived.Ground.SlgnProg
import Derived.Ground.GgzProg
import Derived.Ground.SlgmProg
import Derived.Shelf.SlIterI.Nil
import Derived.Shelf.SlicesE.Clone
import Derived.Shelf.SlicesE.Delete
import Derived.Shelf.SlicesE.Reverse
import Derived.Shelf.SortM.Plain
import Derived.Shelf.SortM.SortNone
import Derived.Test.YtidcmjicfnjcjaaGreatProg
set_option linter.all false

namespace Go.Proofs
open Go.Shelf
def Tryz.clone166_ren:Go.Shelf.Ren:=⟨fun | 41=>166 | n=>n,fun | 22=>22 | 23=>56 | 4=>4 | n=>n,fun | n=>n⟩
theorem Tryz.clone166:Go.Proofs.SlLaysE0.n41 Tryz.prog Tryz.clone166_ren:={
 mixed:=by kernel_rfl
 f41:=⟨Tryz.f166.name,by decide,Tryz.func166.trans (congrArg some (by kernel_rfl))⟩
 t4:=Tryz.underlying4
 a4:=Tryz.isAgg4
 z4:=Tryz.sizeOf4
 v4:=Tryz.zeroValue4
 t22:=Tryz.underlying22
 a22:=Tryz.isAgg22
 z22:=Tryz.sizeOf22
 v22:=Tryz.zeroValue22 }
def Tryz.clone169_ren:Go.Shelf.Ren:=⟨fun | 41=>169 | n=>n,fun | 22=>26 | 23=>113 | 4=>4 | n=>n,fun | n=>n⟩
theorem Tryz.clone169:Go.Proofs.SlLaysE0.n41 Tryz.prog Tryz.clone169_ren:={
 mixed:=by kernel_rfl
 f41:=⟨Tryz.f169.name,by decide,Tryz.func169.trans (congrArg some (by kernel_rfl))⟩
 t4:=Tryz.underlying4
 a4:=Tryz.isAgg4
 z4:=Tryz.sizeOf4
 v4:=Tryz.zeroValue4
 t22:=Tryz.underlying26
 a22:=Tryz.isAgg26
 z22:=Tryz.sizeOf26
 v22:=Tryz.zeroValue26 }
def Tryz.rev216_ren:Go.Shelf.Ren:=⟨fun | 35=>216 | n=>n,fun | 22=>153 | 23=>3 | 3=>3 | 4=>4 | 0=>0 | n=>n,fun | n=>n⟩
theorem Tryz.rev216:Go.Proofs.SlLaysE.n35 Tryz.prog Tryz.rev216_ren:={
 mixed:=by kernel_rfl
 f35:=⟨Tryz.f216.name,by decide,Tryz.func216.trans (congrArg some (by kernel_rfl))⟩
 t0:=Tryz.underlying0
 a0:=Tryz.isAgg0
 z0:=Tryz.sizeOf0
 v0:=Tryz.zeroValue0
 t3:=Tryz.underlying3
 a3:=Tryz.isAgg3
 z3:=Tryz.sizeOf3
 v3:=Tryz.zeroValue3
 t4:=Tryz.underlying4
 a4:=Tryz.isAgg4
 z4:=Tryz.sizeOf4
 v4:=Tryz.zeroValue4
 t22:=Tryz.underlying153
 a22:=Tryz.isAgg153
 z22:=Tryz.sizeOf153
 v22:=Tryz.zeroValue153
 a23:=Tryz.isAgg3
 z23:=Tryz.sizeOf3 }
def Tryz.del215_ren:Go.Shelf.Ren:=⟨fun | 45=>215 | n=>n,fun | 22=>153 | 23=>3 | 3=>3 | 4=>4 | 0=>0 | n=>n,fun | n=>n⟩
theorem Tryz.del215:Go.Proofs.SlLaysE.n45 Tryz.prog Tryz.del215_ren:={
 mixed:=by kernel_rfl
 f45:=⟨Tryz.f215.name,by decide,Tryz.func215.trans (congrArg some (by kernel_rfl))⟩
 t0:=Tryz.underlying0
 a0:=Tryz.isAgg0
 z0:=Tryz.sizeOf0
 v0:=Tryz.zeroValue0
 t3:=Tryz.underlying3
 a3:=Tryz.isAgg3
 z3:=Tryz.sizeOf3
 v3:=Tryz.zeroValue3
 t4:=Tryz.underlying4
 a4:=Tryz.isAgg4
 z4:=Tryz.sizeOf4
 v4:=Tryz.zeroValue4
 t22:=Tryz.underlying153
 a22:=Tryz.isAgg153
 z22:=Tryz.sizeOf153
 v22:=Tryz.zeroValue153
 a23:=Tryz.isAgg3
 z23:=Tryz.sizeOf3 }
def Tryz.keys96_ren:Go.Shelf.Ren:=⟨fun | 7=>96 | 10=>152 | n=>n,fun | 23=>130 | 26=>3 | 3=>3 | 28=>133 | 0=>0 | 27=>132 | 33=>106 | 4=>4 | n=>n,fun | n=>n⟩
theorem Tryz.keys96:Go.Proofs.SlLaysZI.n7 Tryz.prog Tryz.keys96_ren:={
 mixed:=by kernel_rfl
 f7:=⟨Tryz.f96.name,by decide,Tryz.func96.trans (congrArg some (by kernel_rfl))⟩
 f10:=⟨Tryz.f152.name,by decide,Tryz.func152.trans (congrArg some (by kernel_rfl))⟩
 t0:=Tryz.underlying0
 a0:=Tryz.isAgg0
 z0:=Tryz.sizeOf0
 v0:=Tryz.zeroValue0
 t4:=Tryz.underlying4
 a4:=Tryz.isAgg4
 z4:=Tryz.sizeOf4
 v4:=Tryz.zeroValue4
 t23:=Tryz.underlying130
 a23:=Tryz.isAgg130
 z23:=Tryz.sizeOf130
 v23:=Tryz.zeroValue130
 t26:=Tryz.underlying3
 a26:=Tryz.isAgg3
 z26:=Tryz.sizeOf3
 v26:=Tryz.zeroValue3
 t27:=Tryz.underlying132
 a27:=Tryz.isAgg132
 z27:=Tryz.sizeOf132
 v27:=Tryz.zeroValue132
 t28:=Tryz.underlying133
 a28:=Tryz.isAgg133
 z28:=Tryz.sizeOf133
 v28:=Tryz.zeroValue133
 t33:=Tryz.underlying106
 a33:=Tryz.isAgg106
 z33:=Tryz.sizeOf106
 v33:=Tryz.zeroValue106 }
def Tryz.sorted95_ren:Go.Shelf.Ren:=⟨fun | 6=>95 | 8=>150 | 9=>151 | 11=>176 | 13=>178 | 12=>177 | 23=>198 | 24=>199 | 14=>189 | 15=>190 | 16=>191 | 17=>192 | 18=>193 | 19=>194 | 20=>195 | 21=>196 | 22=>197 | 25=>206 | 26=>207 | 27=>208 | 28=>209 | 29=>210 | 30=>211 | 31=>218 | n=>n,fun | 26=>3 | 28=>133 | 24=>64 | 0=>0 | 3=>3 | 37=>103 | 48=>226 | 50=>228 | 4=>4 | 40=>219 | 39=>218 | 45=>223 | 5=>5 | 9=>9 | 51=>233 | 55=>237 | 57=>245 | 58=>82 | 33=>106 | n=>n,fun | n=>n⟩
theorem Tryz.sorted95:Go.Proofs.SlLaysZI.n6 Tryz.prog Tryz.sorted95_ren:={
 mixed:=by kernel_rfl
 f6:=⟨Tryz.f95.name,by decide,Tryz.func95.trans (congrArg some (by kernel_rfl))⟩
 f8:=⟨Tryz.f150.name,by decide,Tryz.func150.trans (congrArg some (by kernel_rfl))⟩
 f11:=⟨Tryz.f176.name,by decide,Tryz.func176.trans (congrArg some (by kernel_rfl))⟩
 t0:=Tryz.underlying0
 a0:=Tryz.isAgg0
 z0:=Tryz.sizeOf0
 v0:=Tryz.zeroValue0
 t24:=Tryz.underlying64
 a24:=Tryz.isAgg64
 z24:=Tryz.sizeOf64
 v24:=Tryz.zeroValue64
 t26:=Tryz.underlying3
 a26:=Tryz.isAgg3
 z26:=Tryz.sizeOf3
 v26:=Tryz.zeroValue3
 t28:=Tryz.underlying133
 a28:=Tryz.isAgg133
 z28:=Tryz.sizeOf133
 v28:=Tryz.zeroValue133
 i26:=by kernel_rfl }
def Tryz.sort151_ren:Go.Shelf.Ren:=⟨fun | 5=>151 | 8=>178 | 7=>177 | 19=>198 | 20=>199 | 10=>189 | 11=>190 | 12=>191 | 13=>192 | 14=>193 | 15=>194 | 16=>195 | 17=>196 | 18=>197 | 30=>206 | 31=>207 | 32=>208 | 33=>209 | 34=>210 | 35=>211 | 40=>218 | n=>n,fun | 23=>64 | 25=>3 | 3=>3 | 32=>103 | 22=>64 | 0=>0 | 44=>226 | 46=>228 | 4=>4 | 36=>219 | 35=>218 | 41=>223 | 5=>5 | 9=>9 | 53=>233 | 57=>237 | 63=>245 | 64=>82 | n=>n,fun | n=>n⟩
theorem Tryz.sort151:Go.Proofs.SlLaysM.n5 Tryz.prog Tryz.sort151_ren:={
 mixed:=by kernel_rfl
 f5:=⟨Tryz.f151.name,by decide,Tryz.func151.trans (congrArg some (by kernel_rfl))⟩
 f7:=⟨Tryz.f177.name,by decide,Tryz.func177.trans (congrArg some (by kernel_rfl))⟩
 f8:=Tryz.func178.trans (congrArg some (by kernel_rfl))
 f10:=⟨Tryz.f189.name,by decide,Tryz.func189.trans (congrArg some (by kernel_rfl))⟩
 f11:=⟨Tryz.f190.name,by decide,Tryz.func190.trans (congrArg some (by kernel_rfl))⟩
 f12:=⟨Tryz.f191.name,by decide,Tryz.func191.trans (congrArg some (by kernel_rfl))⟩
 f13:=⟨Tryz.f192.name,by decide,Tryz.func192.trans (congrArg some (by kernel_rfl))⟩
 f14:=⟨Tryz.f193.name,by decide,Tryz.func193.trans (congrArg some (by kernel_rfl))⟩
 f15:=⟨Tryz.f194.name,by decide,Tryz.func194.trans (congrArg some (by kernel_rfl))⟩
 f16:=⟨Tryz.f195.name,by decide,Tryz.func195.trans (congrArg some (by kernel_rfl))⟩
 f17:=⟨Tryz.f196.name,by decide,Tryz.func196.trans (congrArg some (by kernel_rfl))⟩
 f18:=⟨Tryz.f197.name,by decide,Tryz.func197.trans (congrArg some (by kernel_rfl))⟩
 f19:=Tryz.func198.trans (congrArg some (by kernel_rfl))
 f20:=Tryz.func199.trans (congrArg some (by kernel_rfl))
 f30:=⟨Tryz.f206.name,by decide,Tryz.func206.trans (congrArg some (by kernel_rfl))⟩
 f31:=Tryz.func207.trans (congrArg some (by kernel_rfl))
 f32:=Tryz.func208.trans (congrArg some (by kernel_rfl))
 f33:=⟨Tryz.f209.name,by decide,Tryz.func209.trans (congrArg some (by kernel_rfl))⟩
 f34:=⟨Tryz.f210.name,by decide,Tryz.func210.trans (congrArg some (by kernel_rfl))⟩
 f35:=⟨Tryz.f211.name,by decide,Tryz.func211.trans (congrArg some (by kernel_rfl))⟩
 f40:=⟨Tryz.f218.name,by decide,Tryz.func218.trans (congrArg some (by kernel_rfl))⟩
 t0:=Tryz.underlying0
 a0:=Tryz.isAgg0
 z0:=Tryz.sizeOf0
 v0:=Tryz.zeroValue0
 t3:=Tryz.underlying3
 a3:=Tryz.isAgg3
 z3:=Tryz.sizeOf3
 v3:=Tryz.zeroValue3
 t4:=Tryz.underlying4
 a4:=Tryz.isAgg4
 z4:=Tryz.sizeOf4
 v4:=Tryz.zeroValue4
 t5:=Tryz.underlying5
 a5:=Tryz.isAgg5
 z5:=Tryz.sizeOf5
 v5:=Tryz.zeroValue5
 t9:=Tryz.underlying9
 a9:=Tryz.isAgg9
 z9:=Tryz.sizeOf9
 v9:=Tryz.zeroValue9
 t22:=Tryz.underlying64
 a22:=Tryz.isAgg64
 z22:=Tryz.sizeOf64
 v22:=Tryz.zeroValue64
 t23:=Tryz.underlying64
 a23:=Tryz.isAgg64
 z23:=Tryz.sizeOf64
 v23:=Tryz.zeroValue64
 t25:=Tryz.underlying3
 a25:=Tryz.isAgg3
 z25:=Tryz.sizeOf3
 v25:=Tryz.zeroValue3
 t32:=Tryz.underlying103
 a32:=Tryz.isAgg103
 z32:=Tryz.sizeOf103
 v32:=Tryz.zeroValue103
 t35:=Tryz.underlying218
 a35:=Tryz.isAgg218
 z35:=Tryz.sizeOf218
 v35:=Tryz.zeroValue218
 t36:=Tryz.underlying219
 a36:=Tryz.isAgg219
 z36:=Tryz.sizeOf219
 v36:=Tryz.zeroValue219
 t41:=Tryz.underlying223
 a41:=Tryz.isAgg223
 z41:=Tryz.sizeOf223
 v41:=Tryz.zeroValue223
 t44:=Tryz.underlying226
 a44:=Tryz.isAgg226
 z44:=Tryz.sizeOf226
 v44:=Tryz.zeroValue226
 t46:=Tryz.underlying228
 a46:=Tryz.isAgg228
 z46:=Tryz.sizeOf228
 v46:=Tryz.zeroValue228
 t53:=Tryz.underlying233
 a53:=Tryz.isAgg233
 z53:=Tryz.sizeOf233
 v53:=Tryz.zeroValue233
 t57:=Tryz.underlying237
 a57:=Tryz.isAgg237
 z57:=Tryz.sizeOf237
 v57:=Tryz.zeroValue237
 t63:=Tryz.underlying245
 a63:=Tryz.isAgg245
 z63:=Tryz.sizeOf245
 v63:=Tryz.zeroValue245
 t64:=Tryz.underlying82
 a64:=Tryz.isAgg82
 z64:=Tryz.sizeOf82
 v64:=Tryz.zeroValue82 }
end Go.Proofs
