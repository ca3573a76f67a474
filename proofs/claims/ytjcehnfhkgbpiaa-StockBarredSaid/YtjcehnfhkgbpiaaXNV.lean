/-
  Contracts: looking for a way: the whole.
-/
import Derived.Test.YtjcehnfhkgbpiaaXNU
namespace Go.Ax
set_option maxHeartbeats 1000000
set_option maxRecDepth 6000
set_option linter.unusedSimpArgs false
set_option linter.unusedVariables false
attribute [-simp] List.getD_eq_getElem?_getD
variable {lo : Nat} {F : Hp}
inductive FindR (T : Int) (fs : List Fl) (x : List Int) (but a most : Int) (g : Int → Bool) : Int → Int → List Int → List Int → Prop
  | no {S : List Int} (c : Clo fs x but (seenB S)) (ha : seenB S a = true) (hg : ∀ t, 0 ≤ t → t ≤ T → seenB S t = true → g t = false) : FindR T fs x but a most g 0 (-1) x S
  | yes {m e : Int} {x' S : List Int} (he : 0 ≤ e ∧ e ≤ T) (hg : g e = true) (hm : 0 < m ∧ m ≤ most) (hr : inRg fs x') (ho : ∀ t, ov fs x' fs.length t = ov fs x fs.length t + (if t = e then m else 0) - (if t = a then m else 0)) (hb : ∀ j : Nat, (j : Int) = but → x'.getD j 0 = x.getD j 0) : FindR T fs x but a most g m e x' S
theorem FInv.seen {T : Int} {fs : List Fl} {x : List Int} {but a : Int} {s : FS} (h : FInv lo T fs x but a s) (hT : T ≤ 12) {t : Int} (ht : 0 ≤ t ∧ t ≤ T) : seenB s.S t = true ↔ t ∈ nodes a s.D := by
  have := h.sv t.toNat (by omega)
  rw [show ((t.toNat : Nat) : Int) = t by omega] at this
  unfold seenB
  rw [decide_eq_true_eq, this]
  by_cases hm : t ∈ nodes a s.D
  · rw [if_pos hm]; exact ⟨fun _ => hm, fun _ => rfl⟩
  · rw [if_neg hm]; exact ⟨fun h => (by cases h), fun h => absurd h hm⟩
theorem FEnd.no {T : Int} {fs : List Fl} {x : List Int} {but a most : Int} {g : Int → Bool} {s : FS} (hN : Net T fs) (haT : 0 ≤ a ∧ a ≤ T) (h : FInv lo T fs x but a s) (hd : ∀ t, t ∈ nodes a s.D → DoneR fs x but a s.D t fs.length ∧ g t = false) : FindR T fs x but a most g 0 (-1) x s.S := by
  have hT := hN.t
  have hs := fun {t} ht => h.seen (t := t) hT.2 ht
  refine .no ⟨fun i hi hb hf hx => ?_, fun i hi hb hf hx => ?_⟩ ((hs haT).2 nodes_root) (fun t h1 h2 h3 => (hd t ((hs ⟨h1, h2⟩).1 h3)).2)
  · have hu := hN.u i hi
    have := (hd _ ((hs ⟨hu.1, hu.2.1⟩).1 hf)).1 i hi hb (by unfold roomR; rw [if_pos rfl]; omega)
    unfold toR at this
    rw [if_pos rfl] at this
    exact (hs ⟨hu.2.2.1, hu.2.2.2.1⟩).2 this
  · have hu := hN.u i hi
    have := (hd _ ((hs ⟨hu.2.2.1, hu.2.2.2.1⟩).1 hf)).1 i hi hb (by unfold roomR; rw [if_neg hu.2.2.2.2.1, if_pos rfl]; omega)
    unfold toR at this
    rw [if_neg hu.2.2.2.2.1, if_pos rfl] at this
    exact (hs ⟨hu.1, hu.2.1⟩).2 this
end Go.Ax
