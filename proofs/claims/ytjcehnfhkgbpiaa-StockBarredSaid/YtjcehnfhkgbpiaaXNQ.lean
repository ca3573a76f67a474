/-
  Contracts: what a book tells, a new book.
-/
import Derived.Test.YtjcehnfhkgbpiaaXNP
namespace Go.Ax
set_option maxHeartbeats 1000000
set_option maxRecDepth 6000
set_option linter.unusedSimpArgs false
set_option linter.unusedVariables false
attribute [-simp] List.getD_eq_getElem?_getD
variable {lo : Nat} {F : Hp}
section
variable {tbl : Nat → Option AFn} {bd : Nat} {E : FE} {d : Option Nat} {R : FE → Hp → Cls → Prop} {x y : AO}
end
structure Lit' (F : Hp) (xv : AV) (x : List Int) : Prop where
  r : RowI F xv x
  z : x = [] → xv = AV.slc none 0 0 true 0
theorem OwnI.lit {ex : Bool} {xv : AV} {Fo : Hp} {x : List Int} (h : OwnI lo ex xv Fo x) (hx : x = [] → Fo = []) (hs : Fo ⊆ F) : Lit' F xv x := by
  refine ⟨h.rowI hs, fun he => ?_⟩
  have := hx he
  cases h with
  | nil => rfl
  | row => cases this
end Go.Ax
