/-
  Tables of functions.
-/
import Derived.Test.YtmhbmnonichopaaXA0
namespace Go.Ax
def look1 : List (Nat × AFn) → Nat → Option AFn
  | [], _ => none
  | (k, f) :: l, n => bif Nat.beq n k then some f else look1 l n
end Go.Ax
