/-
  Contracts: a flow is stretched.
-/
import Derived.Test.YtjcehnfhkgbpiaaXNY
namespace Go.Ax
set_option maxHeartbeats 1000000
set_option maxRecDepth 6000
set_option linter.unusedSimpArgs false
set_option linter.unusedVariables false
attribute [-simp] List.getD_eq_getElem?_getD
variable {lo : Nat} {F : Hp}
theorem Fn.bound {g : Nat} {p : AV} {l : List AV} {Q : AV → Hp → Prop} (h : Fn tblW lo (fnv g) (p :: l) F Q) : Fn tblW lo (.fn (.func g) [p] []) l F Q := ⟨fun h0 a b c => by
  obtain ⟨n, hn⟩ := h.run h0 a b c
  exact ⟨n, hn⟩⟩
theorem stretch_step {T : Int} {fs : List Fl} {x x' : List Int} {k : Nat} {m : Int} {high : Bool} (hN : Net T fs) (hk : k < fs.length) (h : IsT T fs x) (hr : inRg fs x') (hm : 0 < m) (hml : m ≤ bif high then (gF fs k).hi - x.getD k 0 else x.getD k 0 - (gF fs k).lo)
    (ho : ∀ t, ov fs x' fs.length t = ov fs x fs.length t + (if t = (bif high then (gF fs k).f else (gF fs k).t) then m else 0) - (if t = (bif high then (gF fs k).t else (gF fs k).f) then m else 0)) (hb : x'.getD k 0 = x.getD k 0) :
    IsT T fs (x'.set k (bif high then x'.getD k 0 + m else x'.getD k 0 - m)) := by
  have hkl : k < x'.length := by rw [hr.1]; exact hk
  have hxr := hr.2 k hk
  have hu := hN.u k hk
  refine ⟨⟨by rw [List.length_set]; exact hr.1, fun i hi => ?_⟩, fun t h1 h2 => ?_⟩
  · rw [getD_setI hkl]
    by_cases e : i = k
    · subst e
      rw [if_pos rfl]
      cases high <;> simp only [cond_true, cond_false] at hml ⊢ <;> omega
    · rw [if_neg e]; exact hr.2 i hi
  · have h0 := h.o t h1 h2
    have ho' := ho t
    cases high with
    | true =>
      have e1 : push1 fs m x' (k, (gF fs k).f) = x'.set k (x'.getD k 0 + m) := by unfold push1; rw [if_pos rfl]
      have := push1_ov (m := m) (x := x') (h := (k, (gF fs k).f)) (t := t) hr.1 hN.ne hk (.inl rfl)
      rw [e1] at this
      have e2 : oth fs k (gF fs k).f = (gF fs k).t := if_pos rfl
      simp only [cond_true] at ho' ⊢
      simp only [e2] at this
      rw [this]; omega
    | false =>
      have e1 : push1 fs m x' (k, (gF fs k).t) = x'.set k (x'.getD k 0 - m) := by unfold push1; rw [if_neg hu.2.2.2.2.1]
      have := push1_ov (m := m) (x := x') (h := (k, (gF fs k).t)) (t := t) hr.1 hN.ne hk (.inr rfl)
      rw [e1] at this
      have e2 : oth fs k (gF fs k).t = (gF fs k).f := if_neg hu.2.2.2.2.1
      simp only [cond_false] at ho' ⊢
      simp only [e2] at this
      rw [this]; omega
inductive StrR (lo : Nat) (T : Int) (fs : List Fl) (k : Nat) (high : Bool) (x : List Int) : AV → Hp → Prop
  | own (h : x.getD k 0 = bif high then (gF fs k).hi else (gF fs k).lo) : StrR lo T fs k high x (.slc none 0 0 true 0) []
  | set {r : AV} {Fo : Hp} {p : Int → Bool} (ho : OwnI lo false r Fo (pickL T p)) (h1 : p (gF fs k).f = true) (h2 : p (gF fs k).t = false) (h : bndS fs k high p = x.getD k 0) : StrR lo T fs k high x r Fo
def toB (z t : Int) : Bool := decide (t = z)
end Go.Ax
