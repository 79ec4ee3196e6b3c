/- What the package-level variables that are never written hold, by their blocks: the two tables of unicode/utf8. -/
import Derived.Test.YtdkmclmdemngfaaDoorSxTab
namespace Go.SX
open Go
def glob : Nat → Option (List Value) := fun b => if b = 1 then some firstL else if b = 2 then some accL else none
end Go.SX
