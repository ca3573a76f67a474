/-
  Contracts: looking for a way: the search.
-/
import Derived.Test.YtjcehnfhkgbpiaaXNR
namespace Go.Ax
set_option maxHeartbeats 1000000
set_option maxRecDepth 6000
set_option linter.unusedSimpArgs false
set_option linter.unusedVariables false
attribute [-simp] List.getD_eq_getElem?_getD
variable {lo : Nat} {F : Hp}
structure FS where
  D : List Cm
  L : List (Int × Hop × Nat)
  c : Nat
  qv : AV
  qb : Nat
  qo : Nat
  ql : List AV
  Q : List Int
  S : List Int
structure FInv (lo : Nat) (T : Int) (fs : List Fl) (x : List Int) (but a : Int) (s : FS) : Prop where
  tr : Tr T fs x but a s.D
  sl : s.S.length = 13
  sv : ∀ t : Nat, t < 13 → s.S.getD t 0 = if ((t : Nat) : Int) ∈ nodes a s.D then 1 else 0
  ml : ∀ t, mv s.L t = dv s.D t
  q : QS s.qv s.qb s.qo s.ql s.Q
  qb : lo ≤ s.qb
  qs : ∀ t ∈ s.Q, t ∈ nodes a s.D
structure FRel (a : Int) (s s' : FS) : Prop where
  d : ∀ t, t ∈ nodes a s.D → t ∈ nodes a s'.D
  q : ∀ t, t ∈ s.Q → t ∈ s'.Q
  n : ∀ t, t ∈ nodes a s'.D → t ∈ nodes a s.D ∨ t ∈ s'.Q
  l : s'.D.length + s.Q.length = s.D.length + s'.Q.length
theorem FRel.refl (a : Int) (s : FS) : FRel a s s := ⟨fun _ h => h, fun _ h => h, fun _ h => .inl h, rfl⟩
theorem toR_in {T : Int} {fs : List Fl} (hN : Net T fs) {i : Nat} (hi : i < fs.length) {a : Int} (ha : 0 ≤ a ∧ a ≤ T) : 0 ≤ toR fs i a ∧ toR fs i a ≤ T := by
  have := hN.u i hi
  unfold toR; split
  · omega
  · split <;> omega
theorem room_end {fs : List Fl} {x : List Int} {i : Nat} {a : Int} (h : 0 < roomR fs x i a) : isEnd fs i a ∧ oth fs i a = toR fs i a := by
  unfold roomR at h
  unfold isEnd oth toR
  by_cases h1 : (gF fs i).f = a
  · exact ⟨.inl h1, by rw [if_pos h1, if_pos h1]⟩
  · rw [if_neg h1] at h
    by_cases h2 : (gF fs i).t = a
    · exact ⟨.inr h2, by rw [if_neg h1, if_neg h1, if_pos h2]⟩
    · rw [if_neg h2] at h; omega
theorem FInv.more {T : Int} {fs : List Fl} {x : List Int} {but a at' : Int} {s : FS} {i ta : Nat} {v' : AV} {b' : Nat} (hN : Net T fs) (h : FInv lo T fs x but a s) (hi : i < fs.length) (hbut : (i : Int) ≠ but) (hat : at' ∈ nodes a s.D) (haT : 0 ≤ at' ∧ at' ≤ T) (hr : 0 < roomR fs x i at') (hta : toR fs i at' = (ta : Nat)) (ht : ta < 13) (hs : s.S.getD ta 0 = 0) (hq : QS v' b' 0 (ints (s.Q ++ [((ta : Nat) : Int)])) (s.Q ++ [((ta : Nat) : Int)])) (hb : lo ≤ b') :
    FInv lo T fs x but a ⟨((ta : Nat), i, at') :: s.D, s.L ++ [(((ta : Nat) : Int), (i, at'), s.c)], s.c + 1, v', b', 0, ints (s.Q ++ [((ta : Nat) : Int)]), s.Q ++ [((ta : Nat) : Int)], s.S.set ta 1⟩ ∧ FRel a s ⟨((ta : Nat), i, at') :: s.D, s.L ++ [(((ta : Nat) : Int), (i, at'), s.c)], s.c + 1, v', b', 0, ints (s.Q ++ [((ta : Nat) : Int)]), s.Q ++ [((ta : Nat) : Int)], s.S.set ta 1⟩ := by
  have hnew : ((ta : Nat) : Int) ∉ nodes a s.D := fun hm => by
    rw [h.sv ta ht, if_pos hm] at hs; cases hs
  have ⟨he, ho⟩ := room_end hr
  have htT := toR_in hN hi haT
  rw [hta] at ho htT
  refine ⟨⟨.cons h.tr hnew hat htT hi hbut he ho hr, by simp [h.sl], fun t ht' => ?_, fun t => ?_, hq, hb, fun t hm => ?_⟩, ⟨fun t hm => nodes_cons.2 (.inr hm), fun t hm => List.mem_append_left _ hm, fun t hm => ?_, by simp; omega⟩⟩
  · dsimp only
    rw [getD_setI (by rw [h.sl]; exact ht)]
    by_cases e : t = ta
    · subst e; rw [if_pos rfl, if_pos (nodes_cons.2 (.inl rfl))]
    · rw [if_neg e, h.sv t ht']
      by_cases hm : ((t : Nat) : Int) ∈ nodes a s.D
      · rw [if_pos hm, if_pos (nodes_cons.2 (.inr hm))]
      · rw [if_neg hm, if_neg fun k => by
          rcases nodes_cons.1 k with k | k
          · exact e (by have k : ((t : Nat) : Int) = ((ta : Nat) : Int) := k; omega)
          · exact hm k]
  · dsimp only
    rw [mv_app, h.ml t]
    by_cases e : t = ((ta : Nat) : Int)
    · subst e; rw [dv_none hnew, dv_head]; simp
    · rw [dv_tail e]
      cases dv s.D t <;> simp [e]
  · rcases List.mem_append.1 hm with hm | hm
    · exact nodes_cons.2 (.inr (h.qs t hm))
    · rw [List.mem_singleton] at hm; exact nodes_cons.2 (.inl hm)
  · rcases nodes_cons.1 hm with hm | hm
    · exact .inr (List.mem_append_right _ (by rw [hm]; exact List.mem_singleton.2 rfl))
    · exact .inl hm
theorem FRel.trans {a : Int} {s s' s'' : FS} (h : FRel a s s') (k : FRel a s' s'') : FRel a s s'' := ⟨fun t ht => k.d t (h.d t ht), fun t ht => k.q t (h.q t ht), fun t ht => by
  rcases k.n t ht with h1 | h1
  · rcases h.n t h1 with h2 | h2
    · exact .inl h2
    · exact .inr (k.q t h2)
  · exact .inr h1, by have := h.l; have := k.l; omega⟩
def DoneR (fs : List Fl) (x : List Int) (but a : Int) (D : List Cm) (t : Int) (n : Nat) : Prop := ∀ i, i < n → (i : Int) ≠ but → 0 < roomR fs x i t → toR fs i t ∈ nodes a D
theorem DoneR.mono {fs : List Fl} {x : List Int} {but a t : Int} {D D' : List Cm} {n : Nat} (h : DoneR fs x but a D t n) (hd : ∀ t, t ∈ nodes a D → t ∈ nodes a D') : DoneR fs x but a D' t n := fun i hi h1 h2 => hd _ (h i hi h1 h2)
def gS (T : Int) (v xv : AV) (bm bk : Nat) (R : Hp) (s : FS) : Hp := (s.qb, .cells s.ql true) :: (bm, .map (ents key1 hopv s.L) s.c) :: (bk, .cells (bookC T v xv s.S) true) :: R
end Go.Ax
