/-
  Contracts: by how much a set is short, twice.
-/
import Derived.Test.YtjcehnfhkgbpiaaXNG
namespace Go.Ax
set_option maxHeartbeats 1000000
set_option maxRecDepth 6000
set_option linter.unusedSimpArgs false
set_option linter.unusedVariables false
attribute [-simp] List.getD_eq_getElem?_getD
variable {lo : Nat} {F : Hp}
theorem sumN_bound {g : Nat → Int} : ∀ {n : Nat}, (∀ i, i < n → 0 ≤ g i ∧ g i ≤ 100000) → 0 ≤ sumN g n ∧ sumN g n ≤ (n : Int) * 100000
  | 0, _ => ⟨Int.le_refl _, Int.le_refl _⟩
  | n + 1, h => by
    have := sumN_bound (n := n) fun i hi => h i (by omega)
    have := h n (by omega)
    have e : ((n + 1 : Nat) : Int) = (n : Int) + 1 := by omega
    simp only [sumN]
    rw [e]; omega
def outLo (fs : List Fl) (l : List Int) (i : Nat) : Int := if crs l (gF fs i) = true then (gF fs i).lo else 0
def inHi (fs : List Fl) (l : List Int) (i : Nat) : Int := if crs l (turnF (gF fs i)) = true then (gF fs i).hi else 0
section
variable {T : Int} {fs : List Fl} {l : List Int}
end
abbrev rv1 (r : Int × Int) : AV := .tup [.int .i64 r.1, .int .i64 r.2]
theorem Net.turn {T : Int} {fs : List Fl} (h : Net T fs) : ∀ i, i < (fs.map turnF).length → (gF (fs.map turnF) i).f ≠ (gF (fs.map turnF) i).t := fun i hi => by
  rw [List.length_map] at hi
  rw [gF_turn hi]
  exact fun e => h.ne i hi e.symm
end Go.Ax
