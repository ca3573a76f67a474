/-
  Contracts: the book: how much room a flow has, what is over, which tanks were seen.
-/
import Derived.Test.YtjcehnfhkgbpiaaXNK
namespace Go.Ax
set_option maxHeartbeats 1000000
set_option maxRecDepth 6000
set_option linter.unusedSimpArgs false
set_option linter.unusedVariables false
attribute [-simp] List.getD_eq_getElem?_getD
variable {lo : Nat} {F : Hp}
section
variable {tbl : Nat → Option AFn} {bd : Nat} {E : FE} {d : Option Nat} {R : FE → Hp → Cls → Prop}
end
abbrev bookC (T : Int) (v xv : AV) (S : List Int) : List AV := .int .i64 T :: v :: xv :: ints S
def toR (fs : List Fl) (i : Nat) (a : Int) : Int := if (gF fs i).f = a then (gF fs i).t else if (gF fs i).t = a then (gF fs i).f else a
end Go.Ax
