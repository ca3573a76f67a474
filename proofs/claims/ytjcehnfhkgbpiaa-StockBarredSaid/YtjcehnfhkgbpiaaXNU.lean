/-
  Contracts: looking for a way: the way back, and what is sent on it; the whole.
-/
import Derived.Test.YtjcehnfhkgbpiaaXNT
namespace Go.Ax
set_option maxHeartbeats 1000000
set_option maxRecDepth 6000
set_option linter.unusedSimpArgs false
set_option linter.unusedVariables false
attribute [-simp] List.getD_eq_getElem?_getD
variable {lo : Nat} {F : Hp}
abbrev hopc (h : Hop) : List AV := [.int .i64 h.1, .int .i64 h.2]
structure BInv (lo : Nat) (T : Int) (fs : List Fl) (x : List Int) (but a e most0 : Int) (D : List Cm) (at' : Int) (W : List Hop) (most : Int) (D' : List Cm) (L : List (Int × Hop × Nat)) : Prop where
  tr : Tr T fs x but a D'
  hat : at' ∈ nodes a D'
  w : wayT D e = W ++ wayT D' at'
  m : ∀ u, u ∈ nodes a D' → mv L u = dv D' u
  le : most ≤ most0
  ps : 0 < most
  rm : ∀ h ∈ W, most ≤ roomR fs x h.1 h.2
  wl : W.length + D'.length ≤ 40
structure PS where
  at' : Int
  W : List Hop
  most : Int
  D' : List Cm
  L : List (Int × Hop × Nat)
  c : Nat
  wv : AV
  Fw : Hp
theorem pushW_snoc {fs : List Fl} {m : Int} {x : List Int} {W : List Hop} {h : Hop} : pushW fs m x (W ++ [h]) = push1 fs m (pushW fs m x W) h := by
  unfold pushW; rw [List.foldl_append]; rfl
end Go.Ax
