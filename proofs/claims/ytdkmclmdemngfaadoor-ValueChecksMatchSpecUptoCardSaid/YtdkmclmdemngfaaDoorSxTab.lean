/- SX: the tables of unicode/utf8. -/
import Derived.WalkKit
import Derived.Lib.DecodeN
namespace Go.SX
open Go Go.Lib
def firstL : List Value := (List.range 256).map fun c => Value.int .u8 (firstT c)
def accL : List Value := (List.range 32).map fun j => if j % 2 = 0 then Value.int .u8 (accLo (j / 2)) else Value.int .u8 (accHi (j / 2))
end Go.SX
