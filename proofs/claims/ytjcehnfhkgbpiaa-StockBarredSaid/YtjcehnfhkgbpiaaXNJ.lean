/-
  Contracts: litres over, which amounts are a truth; twice.
-/
import Derived.Test.YtjcehnfhkgbpiaaXNI
namespace Go.Ax
set_option maxHeartbeats 1000000
set_option maxRecDepth 6000
set_option linter.unusedSimpArgs false
set_option linter.unusedVariables false
attribute [-simp] List.getD_eq_getElem?_getD
variable {lo : Nat} {F : Hp}
def ovK (K : Nat) (fs : List Fl) (x : List Int) (n : Nat) : List Int := (List.range K).map fun t => ov fs x n (t : Nat)
theorem ovK_len {K : Nat} {fs : List Fl} {x : List Int} {n : Nat} : (ovK K fs x n).length = K := by simp [ovK]
theorem ovK_get {K : Nat} {fs : List Fl} {x : List Int} {n t : Nat} (h : t < K) : (ovK K fs x n).getD t 0 = ov fs x n (t : Nat) := by
  simp [ovK, List.getD, List.getElem?_eq_getElem, h]
theorem ovK_zero {K : Nat} {fs : List Fl} {x : List Int} : ovK K fs x 0 = List.replicate K 0 := by
  refine eq_of_getD (by rw [ovK_len, List.length_replicate]) fun j hj => ?_
  rw [ovK_len] at hj
  rw [ovK_get hj]
  simp [ov, sumN, List.getD, List.getElem?_replicate, hj]
theorem ovK_step {K : Nat} {fs : List Fl} {x : List Int} {n a b : Nat} (ha : (gF fs n).t = (a : Nat)) (hb : (gF fs n).f = (b : Nat)) (hab : a ≠ b) (ha' : a < K) (hb' : b < K) :
    ((ovK K fs x n).set a (ov fs x n (a : Nat) + x.getD n 0)).set b (ov fs x n (b : Nat) - x.getD n 0) = ovK K fs x (n + 1) := by
  refine eq_of_getD (by simp [ovK_len]) fun j hj => ?_
  rw [List.length_set, List.length_set, ovK_len] at hj
  rw [ovK_get hj, getD_setI (by rw [List.length_set, ovK_len]; exact hb'), getD_setI (by rw [ovK_len]; exact ha'), ovK_get hj]
  show _ = ov fs x n (j : Nat) + br fs x (j : Nat) n
  unfold br
  rw [ha, hb]
  by_cases e1 : j = b
  · subst e1; rw [if_pos rfl, if_neg (by omega), if_pos rfl]; omega
  · rw [if_neg e1]
    by_cases e2 : j = a
    · subst e2; rw [if_pos rfl, if_pos rfl, if_neg (by omega)]; omega
    · rw [if_neg e2, if_neg (by omega), if_neg (by omega)]; omega
theorem ov_in {fs : List Fl} {x : List Int} {t : Int} : ∀ {n : Nat}, (∀ i, i < n → 0 ≤ x.getD i 0 ∧ x.getD i 0 ≤ 100000) → -((n : Int) * 100000) ≤ ov fs x n t ∧ ov fs x n t ≤ (n : Int) * 100000
  | 0, _ => by simp [ov, sumN]
  | n + 1, hr => by
    have ih := ov_in (t := t) (n := n) (fs := fs) fun i hi => hr i (by omega)
    have h1 := hr n (by omega)
    have e : ov fs x (n + 1) t = ov fs x n t + br fs x t n := rfl
    rw [e]
    unfold br
    have : ((n + 1 : Nat) : Int) = (n : Int) + 1 := by omega
    rw [this]
    split <;> split <;> omega
theorem rep0 (n j : Nat) : (List.replicate n (0 : Int)).getD j 0 = 0 := by
  by_cases h : j < n
  · simp [List.getD, List.getElem?_replicate, h]
  · simp [List.getD, List.getElem?_replicate, h]
def badT (T : Int) (fs : List Fl) (x : List Int) : Bool := (List.range (T.toNat + 1)).any fun t => decide (ov fs x fs.length (t : Nat) ≠ 0)
end Go.Ax
