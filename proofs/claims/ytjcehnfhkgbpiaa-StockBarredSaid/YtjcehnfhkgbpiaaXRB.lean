/-
  Contracts: a set that is short; a book for a flow; the span, an end, its bound.
-/
import Derived.Test.YtjcehnfhkgbpiaaXRA
namespace Go.Ax
set_option maxHeartbeats 1000000
set_option maxRecDepth 6000
set_option linter.unusedSimpArgs false
set_option linter.unusedVariables false
attribute [-simp] List.getD_eq_getElem?_getD
variable {lo : Nat} {F : Hp}
inductive ShoR (lo : Nat) (T : Int) (fs : List Fl) : AV → Hp → Prop
  | bad (h : chkN T fs ≠ 0) : ShoR lo T fs (.tup [(AV.slc none 0 0 true 0), .int .i64 (chkN T fs)]) []
  | none (hN : Net T fs) (h : ∃ x, IsT T fs x) : ShoR lo T fs (.tup [(AV.slc none 0 0 true 0), .int .i64 5]) []
  | yes {rv : AV} {Fo : Hp} {p : Int → Bool} (hN : Net T fs) (ho : OwnI lo false rv Fo (pickL T p)) (h : 0 < shB fs p) : ShoR lo T fs (.tup [rv, .int .i64 0]) Fo
open Classical in
noncomputable def errN (T : Int) (fs : List Fl) (k : Int) : Int := if chkN T fs ≠ 0 then chkN T fs else if k < 0 ∨ (fs.length : Int) ≤ k then 3 else if ∃ x, IsT T fs x then 0 else 21
inductive OpnR (lo : Nat) (T : Int) (fs : List Fl) (k : Int) (v : AV) (F : Hp) : AV → Hp → Prop
  | err (h : errN T fs k ≠ 0) : OpnR lo T fs k v F (.tup [.ptr none, .int .i64 (errN T fs k)]) F
  | ok {x S : List Int} {bk bx : Nat} (h : errN T fs k = 0) (hT : IsT T fs x) (hS : S.length = 13) (hbk : lo ≤ bk) (hbx : lo ≤ bx) : OpnR lo T fs k v F (.tup [.ptr (some (bk, 0)), .int .i64 0]) ((bk, .cells (bookC T v (AV.slc (some (bx, 0)) fs.length fs.length false 1) S) true) :: (bx, .cells (ints x) true) :: F)
end Go.Ax
