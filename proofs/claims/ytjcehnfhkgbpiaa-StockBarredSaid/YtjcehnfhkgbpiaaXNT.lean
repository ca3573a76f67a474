/-
  Contracts: looking for a way: the search, whole.
-/
import Derived.Test.YtjcehnfhkgbpiaaXNS
namespace Go.Ax
set_option maxHeartbeats 1000000
set_option maxRecDepth 6000
set_option linter.unusedSimpArgs false
set_option linter.unusedVariables false
attribute [-simp] List.getD_eq_getElem?_getD
variable {lo : Nat} {F : Hp}
def FEnd (T : Int) (fs : List Fl) (x : List Int) (but a : Int) (g : Int → Bool) (s : FS) (e : Int) : Prop :=
  (e = -1 ∧ ∀ t, t ∈ nodes a s.D → DoneR fs x but a s.D t fs.length ∧ g t = false) ∨ (e ∈ nodes a s.D ∧ 0 ≤ e ∧ e ≤ T ∧ g e = true)
end Go.Ax
