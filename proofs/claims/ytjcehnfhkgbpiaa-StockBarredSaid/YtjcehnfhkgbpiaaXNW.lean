/-
  Contracts: a book is settled.
-/
import Derived.Test.YtjcehnfhkgbpiaaXNV
namespace Go.Ax
set_option maxHeartbeats 1000000
set_option maxRecDepth 6000
set_option linter.unusedSimpArgs false
set_option linter.unusedVariables false
attribute [-simp] List.getD_eq_getElem?_getD
variable {lo : Nat} {F : Hp}
def posS (T : Int) (fs : List Fl) (x : List Int) : Int := sumN (fun t => max (ov fs x fs.length (t : Nat)) 0) (T.toNat + 1)
theorem posS_nn {T : Int} {fs : List Fl} {x : List Int} : 0 ≤ posS T fs x := by
  have := sumN_le (g := fun _ => 0) (h := fun t => max (ov fs x fs.length (t : Nat)) 0) (n := T.toNat + 1) fun t _ => by omega
  rw [sumN_zero (fun _ _ => rfl)] at this
  exact this
theorem posS_less {T : Int} {fs : List Fl} {x x' : List Int} {a e m : Int} (ha : 0 ≤ a ∧ a ≤ T) (hm : 0 < m) (hma : m ≤ ov fs x fs.length a) (hme : m ≤ -ov fs x fs.length e) (ho : ∀ t, ov fs x' fs.length t = ov fs x fs.length t + (if t = e then m else 0) - (if t = a then m else 0)) : posS T fs x' < posS T fs x := by
  have hae : a ≠ e := fun h => by subst h; omega
  have h1 := sumN_one (g := fun t => max (ov fs x' fs.length (t : Nat)) 0) (h := fun t => max (ov fs x fs.length (t : Nat)) 0) (j := a.toNat) (fun i hi => by
    show max (ov fs x' fs.length (i : Nat)) 0 = max (ov fs x fs.length (i : Nat)) 0
    rw [ho]
    by_cases hie : (i : Int) = e
    · rw [if_pos hie, if_neg (by omega), hie]; omega
    · rw [if_neg hie, if_neg (by omega)]; omega) (n := T.toNat + 1) (by omega)
  have e1 : ((a.toNat : Nat) : Int) = a := by omega
  have h2 := ho a
  rw [if_neg hae, if_pos rfl] at h2
  simp only [e1] at h1
  unfold posS
  omega
theorem ov_sum {T : Int} {fs : List Fl} {x : List Int} (hN : Net T fs) : sumN (fun t => ov fs x fs.length (t : Nat)) (T.toNat + 1) = 0 := by
  have h := ov_set (x := x) (fun _ => true) hN.ends (Nat.le_refl fs.length)
  simp only [if_true] at h
  rw [h]
  exact sumN_zero fun i _ => by unfold brS; simp
theorem all_zero {T : Int} {fs : List Fl} {x : List Int} (hN : Net T fs) (hr : inRg fs x) (h : ∀ t : Nat, t < T.toNat + 1 → ov fs x fs.length (t : Nat) ≤ 0) : IsT T fs x := by
  refine ⟨hr, fun t h1 h2 => ?_⟩
  have hs := ov_sum (x := x) hN
  have hp := sumN_pos (g := fun t => 0 - ov fs x fs.length (t : Nat)) (n := T.toNat + 1) (fun i hi => by have := h i hi; omega) (j := t.toNat) (by omega)
  have e1 : ((t.toNat : Nat) : Int) = t := by omega
  rw [sumN_sub, hs, sumN_zero (fun _ _ => rfl)] at hp
  simp only [e1] at hp
  have := h t.toNat (by omega)
  rw [e1] at this
  omega
section
variable {tbl : Nat → Option AFn} {bd : Nat} {E : FE} {d : Option Nat} {R : FE → Hp → Cls → Prop} {x i : AO} {kd : IntKind}
end
def lackB (O : List Int) (t : Int) : Bool := decide (O.getD t.toNat 0 < 0)
end Go.Ax
