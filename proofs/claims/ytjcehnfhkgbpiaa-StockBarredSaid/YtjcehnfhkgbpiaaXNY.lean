/-
  Contracts: a book is settled: the whole.
-/
import Derived.Test.YtjcehnfhkgbpiaaXNW
namespace Go.Ax
set_option maxHeartbeats 1000000
set_option maxRecDepth 6000
set_option linter.unusedSimpArgs false
set_option linter.unusedVariables false
attribute [-simp] List.getD_eq_getElem?_getD
variable {lo : Nat} {F : Hp}
inductive SetR (lo : Nat) (T : Int) (fs : List Fl) (x : List Int) : AV → Hp → Prop
  | yes (h : IsT T fs x) : SetR lo T fs x (.slc none 0 0 true 0) []
  | no {r : AV} {Fo : Hp} {p : Int → Bool} (ho : OwnI lo false r Fo (pickL T p)) (h : 0 < shB fs p) : SetR lo T fs x r Fo
end Go.Ax
