/-
  The table's functions; the examples' function; ranges and cans out of what was read.
-/
import Derived.Test.YtjcehnfhkgbpiaaXH1
import Derived.Test.YtjcehnfhkgbpiaaXF2
import Derived.Test.YtjcehnfhkgbpiaaXMK
import Derived.KernelRfl
open Go.RowKit Go.ChangeShapes Go.Proofs
namespace Go.Ax
set_option maxHeartbeats 1000000
set_option maxRecDepth 100000
theorem works_ran : K.run tbl 4000 16 = true := by decide +kernel
theorem tblW_ok : TblOk Try.prog tblW := by
  intro g fn h
  unfold tblW at h
  cases hg : Nat.beq g 16 with
  | true =>
    rw [hg] at h
    cases h
    have := Nat.eq_of_beq_eq_true hg
    subst this
    exact ⟨_, _, Try.func16, cf16, .inr ⟨rfl, fun w => closed_calls tblOk mixed works_ran w⟩⟩
  | false =>
    rw [hg] at h
    exact tblOk g fn h
theorem law_calls {g : Nat} {args : List AV} {argsv : List Value} {ι : Io} {h : H} {F : Hp} {w : World} (G : GivenF Try.prog ι h w F) (ha : RelL ι args argsv) (hp : Pure tblW (.fn (.func g) [] []) args F (.bool true)) :
    Calls Try.prog g argsv.toArray w fun e w' => e = .returned (.bool true) ∧ Below w.heap.size w w' := by
  obtain ⟨n, hn⟩ := (hp 0).run h G.f (Nat.zero_le _) (Nat.zero_le _)
  exact ax_true tblW_ok mixed G.g ha (T.all_mono (fun r ⟨_, _, h, _⟩ => h) hn)
theorem maxLen_lt {n : Nat} (h : n ≤ maxLen) : n ≤ 9223372036854775807 := h
theorem range40 : IsPair Try.prog 40 .i64 := ⟨⟨_, _, Try.underlying40, Try.underlying2, Try.underlying2, rfl, rfl, by kernel_rfl, by kernel_rfl⟩, by kernel_rfl⟩
end Go.Ax
