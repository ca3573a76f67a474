/-
  A closed run, told by the strict machine, for a row.
-/
import Derived.Test.YtmhbmnonichopaaXK7
import Derived.Test.YtmhbmnonichopaaXE0
open Go.RowKit
namespace Go.Ax
theorem closed_calls {P : Program} {tbl : Nat → Option AFn} (hT : TblOk P tbl) (hm : P.follows .mixedOrders = true) {n g : Nat} (h : K.run tbl n g = true) (w : World) :
    Calls P g #[] w fun e w' => e = .returned (.bool true) ∧ Below w.heap.size w w' :=
  ax_true hT hm (args := []) (argsv := []) (Given.none P w) .nil (K.run_ok h)
end Go.Ax
