/- Harms, as data. -/
import Derived.Test.YtjjfnbadmpffpaaDoorSmall
set_option linter.all false

namespace Go.Bk
open Go Go.Ev Go.RowKit

@[simp] def harmV (x : Int × Int × UInt8) : List IV := [.int .i64 x.1, .int .i64 x.2.1, .int .u8 (x.2.2.toNat : Nat)]
@[simp] def harms (l : List (Int × Int × UInt8)) : IV := .sl 3 (l.map harmV)
end Go.Bk
