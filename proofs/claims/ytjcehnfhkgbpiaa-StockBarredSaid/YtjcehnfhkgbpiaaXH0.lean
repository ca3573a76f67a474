/-
  The table in which the examples' function is known to return true.
-/
import Derived.Test.YtjcehnfhkgbpiaaXMX
import Derived.Test.YtjcehnfhkgbpiaaXF0
import Derived.Test.YtjcehnfhkgbpiaaXMD
namespace Go.Ax
noncomputable def tblW : Nat → Option AFn := fun g => bif Nat.beq g 16 then some oracle else tbl g
theorem f16_ok {F : Hp} : Pure tblW (.fn (.func 16) [] []) [] F (.bool true) := by
  intro lo
  refine Fn.func (fn := oracle) rfl rfl ?_
  refine Ws.region (Wo.cons (W1.mv rfl (Wo.nil ?_)))
  exact FnEnd.normal (F' := F) (vs := [_]) (ResF.tmp rfl .nil) (List.Sublist.refl _) ⟨rfl, rfl⟩
end Go.Ax
