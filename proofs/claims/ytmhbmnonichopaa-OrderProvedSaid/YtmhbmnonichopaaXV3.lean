/-
  Plain: the program's fixpoint of values. No program in sight.
-/
import Derived.Test.YtmhbmnonichopaaXV2
namespace Go.Ax
set_option linter.unusedSimpArgs false
set_option linter.unusedVariables false

def vs1 (k : K) (plan out : List Int) (d : Nat) : List Int := if plan.getD d 0 < k.most then out.set d (min (out.getD d 0) (k.costs.getD d 0)) else out
def vs2 (k : K) (plan out : List Int) (d : Nat) (nx : Int) : List Int := if nd k d < pl plan (d + 1) then out.set d (min (out.getD d 0) nx) else out
def vs3 (k : K) (plan out : List Int) (d : Nat) (nx : Int) : List Int := if pl plan (d + 1) < rm k d ∧ d + 1 < k.sales.length then out.set (d + 1) (min nx (out.getD d 0)) else out
/-- what a day's round makes of the values -/
def vstep (k : K) (plan out : List Int) (d : Nat) : List Int := vs3 k plan (vs2 k plan (vs1 k plan out d) d (nxtV out k.sales.length d)) d (nxtV out k.sales.length d)
def vpass (k : K) (plan out : List Int) : Nat → List Int
  | 0 => out
  | d + 1 => vstep k plan (vpass k plan out d) d
theorem getD_set' {xs : List Int} {i j : Nat} {u : Int} (hi : i < xs.length) : (xs.set i u).getD j 0 = if j = i then u else xs.getD j 0 := getD_set hi
theorem vs1_len (k : K) (plan out : List Int) (d : Nat) : (vs1 k plan out d).length = out.length := by unfold vs1; split; exact List.length_set ..; rfl
theorem vs2_len (k : K) (plan out : List Int) (d : Nat) (nx : Int) : (vs2 k plan out d nx).length = out.length := by unfold vs2; split; exact List.length_set ..; rfl
theorem vs3_len (k : K) (plan out : List Int) (d : Nat) (nx : Int) : (vs3 k plan out d nx).length = out.length := by unfold vs3; split; exact List.length_set ..; rfl
theorem vstep_len (k : K) (plan out : List Int) (d : Nat) : (vstep k plan out d).length = out.length := by unfold vstep; rw [vs3_len, vs2_len, vs1_len]
theorem vpass_len (k : K) (plan out : List Int) : ∀ d, (vpass k plan out d).length = out.length
  | 0 => rfl
  | d + 1 => by rw [vpass, vstep_len, vpass_len k plan out d]
theorem vs1_get {k : K} {plan out : List Int} {d j : Nat} (hd : d < out.length) : (vs1 k plan out d).getD j 0 = if j = d ∧ plan.getD d 0 < k.most then min (out.getD d 0) (k.costs.getD d 0) else out.getD j 0 := by
  unfold vs1
  by_cases h : plan.getD d 0 < k.most
  · rw [if_pos h, getD_set' hd]
    by_cases e : j = d
    · rw [if_pos e, if_pos ⟨e, h⟩]
    · rw [if_neg e, if_neg (fun h => e h.1)]
  · rw [if_neg h, if_neg (fun h' => h h'.2)]
theorem vs2_get {k : K} {plan out : List Int} {d j : Nat} {nx : Int} (hd : d < out.length) : (vs2 k plan out d nx).getD j 0 = if j = d ∧ nd k d < pl plan (d + 1) then min (out.getD d 0) nx else out.getD j 0 := by
  unfold vs2
  by_cases h : nd k d < pl plan (d + 1)
  · rw [if_pos h, getD_set' hd]
    by_cases e : j = d
    · rw [if_pos e, if_pos ⟨e, h⟩]
    · rw [if_neg e, if_neg (fun h => e h.1)]
  · rw [if_neg h, if_neg (fun h' => h h'.2)]
theorem vs3_get {k : K} {plan out : List Int} {d j : Nat} {nx : Int} (hl : out.length = k.sales.length) : (vs3 k plan out d nx).getD j 0 = if j = d + 1 ∧ pl plan (d + 1) < rm k d ∧ d + 1 < k.sales.length then min nx (out.getD d 0) else out.getD j 0 := by
  unfold vs3
  by_cases h : pl plan (d + 1) < rm k d ∧ d + 1 < k.sales.length
  · rw [if_pos h, getD_set' (by omega)]
    by_cases e : j = d + 1
    · rw [if_pos e, if_pos ⟨e, h⟩]
    · rw [if_neg e, if_neg (fun h => e h.1)]
  · rw [if_neg h, if_neg (fun h' => h h'.2)]
/-- values of a list that may still become less, but not below w -/
structure VInv (k : K) (w : Nat → Int) (out : List Int) : Prop where
  len : out.length = k.sales.length
  day : ∀ d, d < k.sales.length → 0 ≤ out.getD d 0 ∧ out.getD d 0 ≤ 100000 ∧ w d ≤ out.getD d 0
theorem VInv.step {k : K} (hv : Vk k) {plan : List Int} {w : Nat → Int} (hw : Keeps k plan w) {out : List Int} (h : VInv k w out) {d : Nat} (hd : d < k.sales.length) :
    VInv k w (vstep k plan out d) ∧ ∀ j, j < k.sales.length → (vstep k plan out d).getD j 0 ≤ out.getD j 0 := by
  have hl := h.len
  have hc := hv.cost d hd
  have h0 := h.day d hd
  have key : ∀ j, j < k.sales.length → 0 ≤ (vstep k plan out d).getD j 0 ∧ (vstep k plan out d).getD j 0 ≤ out.getD j 0 ∧ w j ≤ (vstep k plan out d).getD j 0 := by
    intro j hj
    have hj0 := h.day j hj
    have hwc := hw.cost d hd
    have hwn := hw.need d
    have hwl := hw.last d
    have hwr := hw.room d
    unfold vstep
    rw [vs3_get (by rw [vs2_len, vs1_len, hl]), vs2_get (by rw [vs1_len]; omega), vs2_get (by rw [vs1_len]; omega), vs1_get (by omega), vs1_get (by omega)]
    have hnx : nxtV out k.sales.length d = if d + 1 < k.sales.length then out.getD (d + 1) 0 else 0 := rfl
    by_cases hdn : d + 1 < k.sales.length
    · rw [if_pos hdn] at hnx
      have h1 := h.day (d + 1) hdn
      have hwn := hwn hdn
      have hwr := hwr hdn
      rw [hnx]
      by_cases e1 : j = d + 1
      · subst e1
        rw [if_neg (show ¬ (d + 1 = d ∧ nd k d < pl plan (d + 1)) by omega), if_neg (show ¬ (d + 1 = d ∧ plan.getD d 0 < k.most) by omega)]
        by_cases c1 : plan.getD d 0 < k.most
        · have hwc := hwc c1
          rw [if_pos (show d = d ∧ plan.getD d 0 < k.most from ⟨rfl, c1⟩)]
          by_cases c2 : nd k d < pl plan (d + 1)
          · rw [if_pos (show d = d ∧ nd k d < pl plan (d + 1) from ⟨rfl, c2⟩)]
            have hwn := hwn c2
            by_cases c3 : pl plan (d + 1) < rm k d
            · have hwr := hwr c3
              rw [if_pos ⟨rfl, c3, hdn⟩]; omega
            · rw [if_neg (by omega)]; omega
          · rw [if_neg (show ¬ (d = d ∧ nd k d < pl plan (d + 1)) by omega)]
            by_cases c3 : pl plan (d + 1) < rm k d
            · have hwr := hwr c3
              rw [if_pos ⟨rfl, c3, hdn⟩]; omega
            · rw [if_neg (by omega)]; omega
        · rw [if_neg (show ¬ (d = d ∧ plan.getD d 0 < k.most) by omega)]
          by_cases c2 : nd k d < pl plan (d + 1)
          · rw [if_pos (show d = d ∧ nd k d < pl plan (d + 1) from ⟨rfl, c2⟩)]
            have hwn := hwn c2
            by_cases c3 : pl plan (d + 1) < rm k d
            · have hwr := hwr c3
              rw [if_pos ⟨rfl, c3, hdn⟩]; omega
            · rw [if_neg (by omega)]; omega
          · rw [if_neg (show ¬ (d = d ∧ nd k d < pl plan (d + 1)) by omega)]
            by_cases c3 : pl plan (d + 1) < rm k d
            · have hwr := hwr c3
              rw [if_pos ⟨rfl, c3, hdn⟩]; omega
            · rw [if_neg (by omega)]; omega
      · rw [if_neg (show ¬ (j = d + 1 ∧ pl plan (d + 1) < rm k d ∧ d + 1 < k.sales.length) from fun h => e1 h.1)]
        by_cases e2 : j = d
        · subst e2
          by_cases c1 : plan.getD j 0 < k.most
          · have hwc := hwc c1
            rw [if_pos (show j = j ∧ plan.getD j 0 < k.most from ⟨rfl, c1⟩)]
            by_cases c2 : nd k j < pl plan (j + 1)
            · rw [if_pos ⟨rfl, c2⟩]
              have hwn := hwn c2
              omega
            · rw [if_neg (by omega)]; omega
          · rw [if_neg (show ¬ (j = j ∧ plan.getD j 0 < k.most) by omega)]
            by_cases c2 : nd k j < pl plan (j + 1)
            · rw [if_pos ⟨rfl, c2⟩]
              have hwn := hwn c2
              omega
            · rw [if_neg (by omega)]; omega
        · rw [if_neg (fun h => e2 h.1), if_neg (fun h => e2 h.1)]; omega
    · rw [if_neg hdn] at hnx
      rw [hnx, if_neg (show ¬ (j = d + 1 ∧ pl plan (d + 1) < rm k d ∧ d + 1 < k.sales.length) from fun h => hdn h.2.2)]
      have hwl := hwl (by omega)
      by_cases e2 : j = d
      · subst e2
        by_cases c1 : plan.getD j 0 < k.most
        · have hwc := hwc c1
          rw [if_pos (show j = j ∧ plan.getD j 0 < k.most from ⟨rfl, c1⟩)]
          by_cases c2 : nd k j < pl plan (j + 1)
          · rw [if_pos ⟨rfl, c2⟩]
            have hwl := hwl c2
            omega
          · rw [if_neg (by omega)]; omega
        · rw [if_neg (show ¬ (j = j ∧ plan.getD j 0 < k.most) by omega)]
          by_cases c2 : nd k j < pl plan (j + 1)
          · rw [if_pos ⟨rfl, c2⟩]
            have hwl := hwl c2
            omega
          · rw [if_neg (by omega)]; omega
      · rw [if_neg (fun h => e2 h.1), if_neg (fun h => e2 h.1)]; omega
  exact ⟨⟨by rw [vstep_len, hl], fun j hj => by have := key j hj; have := h.day j hj; omega⟩, fun j hj => (key j hj).2.1⟩
theorem VInv.pass {k : K} (hv : Vk k) {plan : List Int} {w : Nat → Int} (hw : Keeps k plan w) {out : List Int} (h : VInv k w out) : ∀ d, d ≤ k.sales.length → VInv k w (vpass k plan out d) ∧ ∀ j, j < k.sales.length → (vpass k plan out d).getD j 0 ≤ out.getD j 0
  | 0, _ => ⟨h, fun _ _ => Int.le_refl _⟩
  | d + 1, hd => by
    obtain ⟨h1, h2⟩ := VInv.pass hv hw h d (by omega)
    obtain ⟨h3, h4⟩ := h1.step hv hw (show d < k.sales.length by omega)
    exact ⟨h3, fun j hj => Int.le_trans (h4 j hj) (h2 j hj)⟩
/-- passes only make less -/
theorem VInv.mono {k : K} (hv : Vk k) {plan : List Int} {w : Nat → Int} (hw : Keeps k plan w) {out : List Int} (h : VInv k w out) {d : Nat} : ∀ e, d ≤ e → e ≤ k.sales.length → ∀ j, j < k.sales.length → (vpass k plan out e).getD j 0 ≤ (vpass k plan out d).getD j 0
  | 0, h1, _, j, _ => by rw [show d = 0 by omega]; exact Int.le_refl _
  | e + 1, h1, h2, j, hj => by
    by_cases he : d = e + 1
    · subst he; exact Int.le_refl _
    · have ih := VInv.mono hv hw h (d := d) e (by omega) (by omega) j hj
      have := ((VInv.pass hv hw h e (by omega)).1.step hv hw (show e < k.sales.length by omega)).2 j hj
      exact Int.le_trans this ih
theorem list_ext2 {α : Type} {z : α} {xs ys : List α} (hl : xs.length = ys.length) (h : ∀ j, j < xs.length → xs.getD j z = ys.getD j z) : xs = ys := by
  refine List.ext_getElem hl fun j h1 h2 => ?_
  have := h j h1
  simpa [List.getD, List.getElem?_eq_getElem h1, List.getElem?_eq_getElem h2] using this
theorem ext_day {xs ys : List Int} {n : Nat} (h1 : xs.length = n) (h2 : ys.length = n) (h : ∀ j, j < n → xs.getD j 0 = ys.getD j 0) : xs = ys := list_ext2 (z := 0) (h1.trans h2.symm) fun j hj => h j (h1 ▸ hj)
/-- values that a whole round leaves as they are -/
theorem VInv.fix {k : K} (hv : Vk k) {plan : List Int} {w : Nat → Int} (hw : Keeps k plan w) {out : List Int} (h : VInv k w out) (hf : vpass k plan out k.sales.length = out) : Keeps k plan fun d => out.getD d 0 := by
  have hall : ∀ d, d ≤ k.sales.length → vpass k plan out d = out := fun d hd => by
    refine ext_day (n := k.sales.length) (by rw [vpass_len, h.len]) h.len fun j hj => ?_
    have h1 := VInv.mono hv hw h (d := d) k.sales.length hd (Nat.le_refl _) j hj
    have h2 := (VInv.pass hv hw h d hd).2 j hj
    rw [hf] at h1
    omega
  have hst : ∀ d, d < k.sales.length → vstep k plan out d = out := fun d hd => by
    have := hall (d + 1) hd
    rwa [vpass, hall d (by omega)] at this
  have hl := h.len
  have g : ∀ d j, d < k.sales.length → (if j = d + 1 ∧ pl plan (d + 1) < rm k d ∧ d + 1 < k.sales.length then min (nxtV out k.sales.length d) ((vs2 k plan (vs1 k plan out d) d (nxtV out k.sales.length d)).getD d 0) else (vs2 k plan (vs1 k plan out d) d (nxtV out k.sales.length d)).getD j 0) = out.getD j 0 := fun d j hd => by
    have := congrArg (fun l : List Int => l.getD j 0) (hst d hd)
    simp only [vstep] at this
    rwa [vs3_get (by rw [vs2_len, vs1_len, hl])] at this
  have g2 : ∀ d, d < k.sales.length → (vs2 k plan (vs1 k plan out d) d (nxtV out k.sales.length d)).getD d 0 = out.getD d 0 := fun d hd => by
    have := g d d hd
    rwa [if_neg (by omega)] at this
  have g3 : ∀ d, d < k.sales.length → (if nd k d < pl plan (d + 1) then min ((vs1 k plan out d).getD d 0) (nxtV out k.sales.length d) else (vs1 k plan out d).getD d 0) = out.getD d 0 := fun d hd => by
    have := g2 d hd
    rw [vs2_get (by rw [vs1_len]; omega)] at this
    simpa using this
  have g4 : ∀ d, d < k.sales.length → (vs1 k plan out d).getD d 0 = if plan.getD d 0 < k.most then min (out.getD d 0) (k.costs.getD d 0) else out.getD d 0 := fun d hd => by
    rw [vs1_get (by omega)]; simp
  refine ⟨fun d hd hx => ?_, fun d hd hx => ?_, fun d hd hx => ?_, fun d hd hx => ?_⟩
  · have h3 := g3 d hd
    rw [g4 d hd, if_pos hx] at h3
    split at h3 <;> omega
  · have h3 := g3 d (by omega)
    rw [if_pos hx] at h3
    have : nxtV out k.sales.length d = out.getD (d + 1) 0 := if_pos hd
    show out.getD d 0 ≤ out.getD (d + 1) 0
    omega
  · have h3 := g3 d (by omega)
    rw [if_pos hx] at h3
    have : nxtV out k.sales.length d = 0 := if_neg (by omega)
    show out.getD d 0 ≤ 0
    omega
  · have h3 := g d (d + 1) (by omega)
    rw [if_pos ⟨rfl, hx, hd⟩, g2 d (by omega)] at h3
    show out.getD (d + 1) 0 ≤ out.getD d 0
    omega
/-- how much the values are together -/
def vsum (out : List Int) : Nat → Nat
  | 0 => 0
  | d + 1 => vsum out d + (out.getD d 0).toNat
theorem vsum_le {a b : List Int} : ∀ n, (∀ j, j < n → a.getD j 0 ≤ b.getD j 0) → vsum a n ≤ vsum b n
  | 0, _ => Nat.le_refl _
  | n + 1, h => by
    have := vsum_le n fun j hj => h j (by omega)
    have := h n (by omega)
    simp only [vsum]
    omega
theorem vsum_lt {a b : List Int} : ∀ n, (∀ j, j < n → 0 ≤ a.getD j 0 ∧ a.getD j 0 ≤ b.getD j 0) → (∃ j, j < n ∧ a.getD j 0 ≠ b.getD j 0) → vsum a n < vsum b n
  | 0, _, ⟨j, hj, _⟩ => absurd hj (Nat.not_lt_zero j)
  | n + 1, h, ⟨j, hj, hne⟩ => by
    have hn := h n (by omega)
    simp only [vsum]
    by_cases e : j = n
    · subst e
      have := vsum_le (a := a) (b := b) j fun i hi => (h i (by omega)).2
      omega
    · have := vsum_lt n (fun i hi => h i (by omega)) ⟨j, by omega, hne⟩
      omega
theorem VInv.less {k : K} (hv : Vk k) {plan : List Int} {w : Nat → Int} (hw : Keeps k plan w) {out : List Int} (h : VInv k w out) (hne : vpass k plan out k.sales.length ≠ out) : vsum (vpass k plan out k.sales.length) k.sales.length < vsum out k.sales.length := by
  obtain ⟨h1, h2⟩ := VInv.pass hv hw h k.sales.length (Nat.le_refl _)
  refine vsum_lt _ (fun j hj => ⟨(h1.day j hj).1, h2 j hj⟩) ?_
  rcases Classical.em (∃ j, j < k.sales.length ∧ (vpass k plan out k.sales.length).getD j 0 ≠ out.getD j 0) with h3 | h3
  · exact h3
  · exact absurd (ext_day h1.len h.len fun j hj => Classical.byContradiction fun h4 => h3 ⟨j, hj, h4⟩) hne
/-- the greatest number of a row's first ones -/
def mxl (xs : List Int) : Nat → Int
  | 0 => xs.getD 0 0
  | i + 1 => max (mxl xs i) (xs.getD (i + 1) 0)
theorem mxl_ge {xs : List Int} : ∀ {i j : Nat}, j ≤ i → xs.getD j 0 ≤ mxl xs i
  | 0, j, h => by rw [show j = 0 by omega]; exact Int.le_refl _
  | i + 1, j, h => by
    simp only [mxl]
    by_cases e : j = i + 1
    · subst e; omega
    · have := @mxl_ge xs i j (by omega)
      omega
theorem mxl_in {xs : List Int} {l u : Int} : ∀ {i : Nat}, (∀ j, j ≤ i → l ≤ xs.getD j 0 ∧ xs.getD j 0 ≤ u) → l ≤ mxl xs i ∧ mxl xs i ≤ u
  | 0, h => h 0 (Nat.le_refl _)
  | i + 1, h => by
    have h1 := @mxl_in xs l u i fun j hj => h j (by omega)
    have h2 := h (i + 1) (Nat.le_refl _)
    simp only [mxl]
    omega
theorem wv_max {k : K} (hv : Vk k) {plan : List Int} {d : Nat} : wv k plan d k.sales.length ≤ mxl k.costs (k.sales.length - 1) := by
  have h1 := hv.n1
  rcases @wv_get k plan d k.sales.length with h | ⟨e, h2, h3, h4⟩
  · rw [h]
    exact (mxl_in (l := 0) (u := 100000) fun j hj => hv.cost j (by omega)).1
  · rw [h4]; exact mxl_ge (by omega)
theorem VInv.start {k : K} (hv : Vk k) {plan : List Int} : VInv k (fun d => wv k plan d k.sales.length) (List.replicate k.sales.length (mxl k.costs (k.sales.length - 1))) := by
  have h1 := hv.n1
  have h2 := mxl_in (xs := k.costs) (i := k.sales.length - 1) (l := 0) (u := 100000) fun j hj => hv.cost j (by omega)
  refine ⟨List.length_replicate .., fun d hd => ?_⟩
  have : (List.replicate k.sales.length (mxl k.costs (k.sales.length - 1))).getD d 0 = mxl k.costs (k.sales.length - 1) := by simp [List.getD, hd]
  rw [this]
  exact ⟨h2.1, h2.2, wv_max hv⟩
end Go.Ax
