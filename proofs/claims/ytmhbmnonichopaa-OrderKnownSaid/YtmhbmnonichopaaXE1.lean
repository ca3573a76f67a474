/-
  A table of functions, looked up in a list.
-/
import Derived.Test.YtmhbmnonichopaaXE0
import Derived.Test.YtmhbmnonichopaaXL0
namespace Go.Ax
def AllOk (P : Program) : List (Nat × AFn) → Prop
  | [] => True
  | p :: l => (∃ f, P.funcs[p.1]? = some f ∧ compF P f = some p.2) ∧ AllOk P l
theorem AllOk.tbl {P : Program} : ∀ {l : List (Nat × AFn)}, AllOk P l → TblOk P (look1 l)
  | [], _, _, _, h => by cases h
  | (k, f) :: l, hA, g, fn, h => by
    simp only [look1, cond_eq_ite, Nat.beq_eq] at h
    split at h
    · rename_i e
      cases h
      subst e
      exact hA.1
    · exact AllOk.tbl hA.2 g fn h
end Go.Ax
