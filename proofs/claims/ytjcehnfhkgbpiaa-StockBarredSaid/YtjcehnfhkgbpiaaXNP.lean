/-
  Contracts: the book: lists of tanks, what is told, a new book.
-/
import Derived.Test.YtjcehnfhkgbpiaaXNO
namespace Go.Ax
set_option maxHeartbeats 1000000
set_option maxRecDepth 6000
set_option linter.unusedSimpArgs false
set_option linter.unusedVariables false
attribute [-simp] List.getD_eq_getElem?_getD
variable {lo : Nat} {F : Hp}
def ovPos (z : Int) : Bool := decide (0 < z)
def pickN (p : Int → Bool) (n : Nat) : List Int := ((List.range n).map fun t => ((t : Nat) : Int)).filter p
theorem pickN_succ (p : Int → Bool) (n : Nat) : pickN p (n + 1) = if p (n : Nat) = true then pickN p n ++ [((n : Nat) : Int)] else pickN p n := by
  unfold pickN
  rw [List.range_succ, List.map_append, List.filter_append]
  by_cases h : p (n : Nat) = true
  · rw [if_pos h]; simp [h]
  · rw [if_neg h]; simp [h]
theorem pickN_len (p : Int → Bool) (n : Nat) : (pickN p n).length ≤ n := by
  unfold pickN
  refine Nat.le_trans (List.length_filter_le _ _) ?_
  simp
theorem pickL_N (T : Int) (p : Int → Bool) : pickL T p = pickN p (T.toNat + 1) := rfl
def seenB (S : List Int) (t : Int) : Bool := decide (S.getD t.toNat 0 = 1)
end Go.Ax
