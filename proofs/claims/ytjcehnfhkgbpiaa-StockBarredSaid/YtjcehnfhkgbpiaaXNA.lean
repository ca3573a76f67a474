/-
  Plain: nets; sums over flows; truths, sets.
-/
namespace Go.Ax
set_option linter.unusedSimpArgs false
set_option linter.unusedVariables false
structure Fl where
  f : Int
  t : Int
  lo : Int
  hi : Int
  deriving DecidableEq, Inhabited
attribute [-simp] List.getD_eq_getElem?_getD
def gF (fs : List Fl) (i : Nat) : Fl := fs.getD i default
def sumN (g : Nat → Int) : Nat → Int
  | 0 => 0
  | n + 1 => sumN g n + g n
theorem sumN_congr {g h : Nat → Int} : ∀ {n : Nat}, (∀ i, i < n → g i = h i) → sumN g n = sumN h n
  | 0, _ => rfl
  | n + 1, k => by simp only [sumN]; rw [sumN_congr fun i hi => k i (by omega), k n (by omega)]
theorem sumN_add (g h : Nat → Int) : ∀ n, sumN (fun i => g i + h i) n = sumN g n + sumN h n
  | 0 => rfl
  | n + 1 => by simp only [sumN]; rw [sumN_add g h n]; omega
theorem sumN_sub (g h : Nat → Int) : ∀ n, sumN (fun i => g i - h i) n = sumN g n - sumN h n
  | 0 => rfl
  | n + 1 => by simp only [sumN]; rw [sumN_sub g h n]; omega
theorem sumN_le {g h : Nat → Int} : ∀ {n : Nat}, (∀ i, i < n → g i ≤ h i) → sumN g n ≤ sumN h n
  | 0, _ => Int.le_refl _
  | n + 1, k => by
    have := sumN_le (g := g) (h := h) (n := n) fun i hi => k i (by omega)
    have := k n (by omega)
    simp only [sumN]; omega
theorem sumN_zero {g : Nat → Int} {n : Nat} (k : ∀ i, i < n → g i = 0) : sumN g n = 0 := by
  rw [sumN_congr (h := fun _ => 0) k]
  induction n with
  | zero => rfl
  | succ n ih => simp only [sumN]; rw [ih fun i hi => k i (by omega)]; rfl
theorem sumN_one {g h : Nat → Int} {j : Nat} (k : ∀ i, i ≠ j → g i = h i) : ∀ {n : Nat}, j < n → sumN g n = sumN h n + (g j - h j)
  | 0, hj => absurd hj (Nat.not_lt_zero _)
  | n + 1, hj => by
    simp only [sumN]
    by_cases e : j = n
    · subst e
      rw [sumN_congr (h := h) fun i hi => k i (by omega)]; omega
    · rw [sumN_one k (show j < n by omega), k n (fun he => e he.symm)]; omega
theorem sumN_at {v : Int} {j n : Nat} (hj : j < n) : sumN (fun i => if i = j then v else 0) n = v := by
  rw [sumN_one (h := fun _ => 0) (j := j) (fun i hi => if_neg hi) hj, sumN_zero (fun _ _ => rfl), if_pos rfl]; omega
theorem sumN_pos {g : Nat → Int} : ∀ {n : Nat}, (∀ i, i < n → 0 ≤ g i) → ∀ {j}, j < n → g j ≤ sumN g n
  | 0, _, _, hj => absurd hj (Nat.not_lt_zero _)
  | n + 1, k, j, hj => by
    have h0 : 0 ≤ sumN g n := by rw [← sumN_zero (g := fun _ => 0) (n := n) fun _ _ => rfl]; exact sumN_le fun i hi => k i (by omega)
    simp only [sumN]
    by_cases e : j = n
    · subst e; omega
    · have := sumN_pos (g := g) (n := n) (fun i hi => k i (by omega)) (show j < n by omega)
      have := k n (by omega)
      omega
def br (fs : List Fl) (x : List Int) (t : Int) (i : Nat) : Int := (if (gF fs i).t = t then x.getD i 0 else 0) - (if (gF fs i).f = t then x.getD i 0 else 0)
def ov (fs : List Fl) (x : List Int) (n : Nat) (t : Int) : Int := sumN (br fs x t) n
def brS (fs : List Fl) (x : List Int) (S : Int → Bool) (i : Nat) : Int := (if S (gF fs i).t = true then x.getD i 0 else 0) - (if S (gF fs i).f = true then x.getD i 0 else 0)
structure Ends (T : Int) (fs : List Fl) : Prop where
  z : 0 ≤ T
  e : ∀ i, i < fs.length → 0 ≤ (gF fs i).f ∧ (gF fs i).f ≤ T ∧ 0 ≤ (gF fs i).t ∧ (gF fs i).t ≤ T
theorem pick_one {T : Int} {S : Int → Bool} {a v : Int} (h : 0 ≤ a ∧ a ≤ T) : sumN (fun t => if S (t : Nat) = true then (if a = ((t : Nat) : Int) then v else 0) else 0) (T.toNat + 1) = if S a = true then v else 0 := by
  rw [← sumN_at (v := if S a = true then v else 0) (j := a.toNat) (n := T.toNat + 1) (by omega)]
  refine sumN_congr fun i hi => ?_
  by_cases e : i = a.toNat
  · subst e
    have : ((a.toNat : Nat) : Int) = a := by omega
    rw [this]; simp
  · rw [if_neg (show ¬ a = (i : Int) by omega), if_neg e]; simp
theorem ov_set {T : Int} {fs : List Fl} {x : List Int} (S : Int → Bool) (hE : Ends T fs) : ∀ {n : Nat}, n ≤ fs.length → sumN (fun t => if S (t : Nat) = true then ov fs x n (t : Nat) else 0) (T.toNat + 1) = sumN (brS fs x S) n
  | 0, _ => sumN_zero fun i _ => by simp [ov, sumN]
  | n + 1, hn => by
    have hE' := hE.e n (by omega)
    have h := ov_set S hE (x := x) (n := n) (by omega)
    simp only [sumN]
    rw [← h]
    have e : sumN (fun t => if S (t : Nat) = true then ov fs x (n + 1) (t : Nat) else 0) (T.toNat + 1) = sumN (fun t => (if S (t : Nat) = true then ov fs x n (t : Nat) else 0) + ((if S (t : Nat) = true then (if (gF fs n).t = ((t : Nat) : Int) then x.getD n 0 else 0) else 0) - (if S (t : Nat) = true then (if (gF fs n).f = ((t : Nat) : Int) then x.getD n 0 else 0) else 0))) (T.toNat + 1) := by
      refine sumN_congr fun t _ => ?_
      simp only [ov, sumN, br]
      by_cases hS : S (t : Nat) = true
      · simp only [hS, if_true]
      · simp only [hS]; simp
    show sumN _ (T.toNat + 1) = _
    rw [e, sumN_add, sumN_sub, pick_one ⟨hE'.2.2.1, hE'.2.2.2⟩, pick_one ⟨hE'.1, hE'.2.1⟩]
    rfl
def inRg (fs : List Fl) (x : List Int) : Prop := x.length = fs.length ∧ ∀ i, i < fs.length → (gF fs i).lo ≤ x.getD i 0 ∧ x.getD i 0 ≤ (gF fs i).hi
structure IsT (T : Int) (fs : List Fl) (x : List Int) : Prop where
  r : inRg fs x
  o : ∀ t : Int, 0 ≤ t → t ≤ T → ov fs x fs.length t = 0
structure Clo (fs : List Fl) (x : List Int) (but : Int) (S : Int → Bool) : Prop where
  f : ∀ i, i < fs.length → (i : Int) ≠ but → S (gF fs i).f = true → x.getD i 0 < (gF fs i).hi → S (gF fs i).t = true
  b : ∀ i, i < fs.length → (i : Int) ≠ but → S (gF fs i).t = true → (gF fs i).lo < x.getD i 0 → S (gF fs i).f = true
def shI (fs : List Fl) (S : Int → Bool) (i : Nat) : Int := (if S (gF fs i).f = true ∧ S (gF fs i).t = false then (gF fs i).lo else 0) - (if S (gF fs i).f = false ∧ S (gF fs i).t = true then (gF fs i).hi else 0)
def shB (fs : List Fl) (S : Int → Bool) : Int := sumN (shI fs S) fs.length
theorem IsT.flow {T : Int} {fs : List Fl} {x : List Int} (h : IsT T fs x) (hE : Ends T fs) (S : Int → Bool) : sumN (brS fs x S) fs.length = 0 := by
  rw [← ov_set S hE (Nat.le_refl _)]
  exact sumN_zero fun t ht => by have := hE.z; rw [h.o _ (by omega) (by omega)]; simp
theorem IsT.short {T : Int} {fs : List Fl} {x : List Int} (h : IsT T fs x) (hE : Ends T fs) (S : Int → Bool) : shB fs S ≤ 0 := by
  have h1 := h.flow hE S
  have h2 : sumN (shI fs S) fs.length ≤ sumN (fun i => 0 - brS fs x S i) fs.length := sumN_le fun i hi => by
    have := h.r.2 i hi
    unfold shI brS
    cases S (gF fs i).f <;> cases S (gF fs i).t <;> simp <;> omega
  rw [sumN_sub, h1, sumN_zero (fun _ _ => rfl)] at h2
  exact h2
theorem Clo.short {fs : List Fl} {x : List Int} {S : Int → Bool} (h : Clo fs x (-1) S) (hr : inRg fs x) : shB fs (fun t => !S t) = sumN (brS fs x S) fs.length := by
  refine sumN_congr fun i hi => ?_
  have h1 := h.f i hi (by omega)
  have h2 := h.b i hi (by omega)
  have := hr.2 i hi
  unfold shI brS
  cases e1 : S (gF fs i).f <;> cases e2 : S (gF fs i).t <;> simp [e1, e2] at h1 h2 ⊢ <;> omega
def bndI (fs : List Fl) (k : Nat) (high : Bool) (S : Int → Bool) (i : Nat) : Int :=
  (if S (gF fs i).f = false ∧ S (gF fs i).t = true then (bif high then (gF fs i).hi else (gF fs i).lo) else 0) - (if i ≠ k ∧ S (gF fs i).f = true ∧ S (gF fs i).t = false then (bif high then (gF fs i).lo else (gF fs i).hi) else 0)
def bndS (fs : List Fl) (k : Nat) (high : Bool) (S : Int → Bool) : Int := sumN (bndI fs k high S) fs.length
theorem flow_cut {fs : List Fl} {x : List Int} {S : Int → Bool} {k : Nat} (hk : k < fs.length) (h : sumN (brS fs x S) fs.length = 0) (h1 : S (gF fs k).f = true) (h2 : S (gF fs k).t = false) :
    x.getD k 0 = sumN (fun i => if i = k then 0 else brS fs x S i) fs.length := by
  have := sumN_one (g := brS fs x S) (h := fun i => if i = k then 0 else brS fs x S i) (j := k) (fun i hi => (if_neg hi).symm) hk
  have e : brS fs x S k = - x.getD k 0 := by unfold brS; simp [h1, h2]
  rw [h, if_pos rfl, e] at this
  omega
theorem IsT.bound {T : Int} {fs : List Fl} {x : List Int} (h : IsT T fs x) (hE : Ends T fs) {S : Int → Bool} {k : Nat} (hk : k < fs.length) (h1 : S (gF fs k).f = true) (h2 : S (gF fs k).t = false) : bndS fs k false S ≤ x.getD k 0 ∧ x.getD k 0 ≤ bndS fs k true S := by
  rw [flow_cut hk (h.flow hE S) h1 h2]
  constructor
  · refine sumN_le fun i hi => ?_
    have := h.r.2 i hi
    unfold bndI brS
    by_cases e : i = k
    · subst e; simp [h1, h2]
    · cases S (gF fs i).f <;> cases S (gF fs i).t <;> simp [e] <;> omega
  · refine sumN_le fun i hi => ?_
    have := h.r.2 i hi
    unfold bndI brS
    by_cases e : i = k
    · subst e; simp [h1, h2]
    · cases S (gF fs i).f <;> cases S (gF fs i).t <;> simp [e] <;> omega
theorem Clo.high {T : Int} {fs : List Fl} {x : List Int} {S : Int → Bool} {k : Nat} (c : Clo fs x k S) (h : IsT T fs x) (hE : Ends T fs) (hk : k < fs.length) (h1 : S (gF fs k).f = false) (h2 : S (gF fs k).t = true) : bndS fs k true (fun t => !S t) = x.getD k 0 := by
  rw [flow_cut (S := fun t => !S t) hk (h.flow hE _) (by simp [h1]) (by simp [h2])]
  refine sumN_congr fun i hi => ?_
  have := h.r.2 i hi
  unfold bndI brS
  by_cases e : i = k
  · subst e; simp [h1, h2]
  · have a1 := c.f i hi (by omega)
    have a2 := c.b i hi (by omega)
    cases e1 : S (gF fs i).f <;> cases e2 : S (gF fs i).t <;> simp [e, e1, e2] at a1 a2 ⊢ <;> omega
end Go.Ax
