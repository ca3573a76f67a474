/-
  Plain: cans and meters compared.
-/
import Derived.Test.YtjcehnfhkgbpiaaXH8
namespace Go.Ax
set_option linter.unusedSimpArgs false
set_option linter.unusedVariables false
theorem meter_err {s l h : Int} (hs : 0 ≤ s ∧ s ≤ 100000) (ho : -100 ≤ l ∧ l ≤ h ∧ h ≤ 100) : ((meterR s l h).2 = 0 ∧ (meterR s l h).1 = (upQ (1000 * s) (1000 + h), 1000 * s / (1000 + l)) ∧ upQ (1000 * s) (1000 + h) ≤ 1000 * s / (1000 + l)) ∨ ((meterR s l h).2 = 5 ∧ 1000 * s / (1000 + l) < upQ (1000 * s) (1000 + h)) := by
  unfold meterR
  rw [if_neg (by omega), if_neg (by omega)]
  by_cases hle : upQ (1000 * s) (1000 + h) ≤ 1000 * s / (1000 + l)
  · rw [if_pos hle]; exact .inl ⟨rfl, rfl, hle⟩
  · rw [if_neg hle]; exact .inr ⟨rfl, by omega⟩
/-- a number that fits is between the ends -/
theorem meter_fits {s l h t : Int} (hs : 0 ≤ s ∧ s ≤ 100000) (ho : -100 ≤ l ∧ l ≤ h ∧ h ≤ 100) (h1 : t * (1000 + l) ≤ 1000 * s) (h2 : 1000 * s ≤ t * (1000 + h)) : (meterR s l h).2 = 0 ∧ (meterR s l h).1.1 ≤ t ∧ t ≤ (meterR s l h).1.2 := by
  have a1 := (upQ_le (n := 1000 * s) (d := 1000 + h) (t := t) (by omega)).2 h2
  have a2 := (le_quo (n := 1000 * s) (d := 1000 + l) (t := t) (by omega)).2 h1
  rcases meter_err hs ho with ⟨e1, e2, e3⟩ | ⟨e1, e2⟩
  · rw [e2]; exact ⟨e1, a1, a2⟩
  · omega
theorem meter_none {n : Int} (hs : 0 ≤ n ∧ n ≤ 100000) : meterR n 0 0 = ((n, n), 0) := by
  have e1 : upQ (1000 * n) (1000 + 0) = n := by unfold upQ; omega
  have e2 : 1000 * n / (1000 + 0) = n := by omega
  unfold meterR
  rw [if_neg (by omega), if_neg (by omega), e1, e2, if_pos (Int.le_refl _)]
/-- what the second half of the law asks -/
theorem meter_mono {n k l h l' h' : Int} (hn : 0 ≤ n ∧ n ≤ 100000) (hk : n ≤ k ∧ k ≤ 100000) (ho : -100 ≤ l ∧ l ≤ h ∧ h ≤ 100) (ho' : -100 ≤ l' ∧ l' ≤ l ∧ h ≤ h' ∧ h' ≤ 100) (ha : (meterR n l h).2 = 0) :
    (meterR n l' h').2 = 0 ∧ (meterR n l' h').1.1 ≤ (meterR n l h).1.1 ∧ (meterR n l h).1.2 ≤ (meterR n l' h').1.2 ∧ ((meterR k l h).2 = 0 → (meterR n l h).1.1 ≤ (meterR k l h).1.1 ∧ (meterR n l h).1.2 ≤ (meterR k l h).1.2) := by
  rcases meter_err hn ho with ⟨_, e2, e3⟩ | ⟨e1, _⟩
  rotate_left
  · omega
  have a1 := (upQ_le (n := 1000 * n) (d := 1000 + h) (t := upQ (1000 * n) (1000 + h)) (by omega)).1 (Int.le_refl _)
  have a2 := (le_quo (n := 1000 * n) (d := 1000 + l) (t := 1000 * n / (1000 + l)) (by omega)).1 (Int.le_refl _)
  have a0 := (meter_in hn.1 ho.1 ho.2.1 ho.2.2 (Int.le_refl _) e3).2.2
  have a0' := (meter_in hn.1 ho.1 ho.2.1 ho.2.2 e3 (Int.le_refl _)).2.2
  have g : ∀ t, 1000 * n ≤ t * (1000 + h) → upQ (1000 * n) (1000 + h) ≤ t := fun t ht => (upQ_le (by omega)).2 ht
  rw [e2]
  generalize upQ (1000 * n) (1000 + h) = L at *
  generalize 1000 * n / (1000 + l) = H at *
  have b1 : L * (1000 + h) ≤ L * (1000 + h') := Int.mul_le_mul_of_nonneg_left (by omega) a0
  have b2 : H * (1000 + l') ≤ H * (1000 + l) := Int.mul_le_mul_of_nonneg_left (by omega) a0'
  have c1 : L * (1000 + l') ≤ H * (1000 + l') := Int.mul_le_mul_of_nonneg_right e3 (by omega)
  have c2 : L * (1000 + h') ≤ H * (1000 + h') := Int.mul_le_mul_of_nonneg_right e3 (by omega)
  have f1 := meter_fits (t := L) hn (⟨ho'.1, by omega, ho'.2.2.2⟩ : -100 ≤ l' ∧ l' ≤ h' ∧ h' ≤ 100) (by omega) (by omega)
  have f2 := meter_fits (t := H) hn (⟨ho'.1, by omega, ho'.2.2.2⟩ : -100 ≤ l' ∧ l' ≤ h' ∧ h' ≤ 100) (by omega) (by omega)
  refine ⟨f1.1, f1.2.1, f2.2.2, fun hb => ?_⟩
  rcases meter_err (s := k) ⟨by omega, hk.2⟩ ho with ⟨_, k2, k3⟩ | ⟨k1, _⟩
  rotate_left
  · omega
  rw [k2]
  dsimp only
  have d1 := (upQ_le (n := 1000 * k) (d := 1000 + h) (t := upQ (1000 * k) (1000 + h)) (by omega)).1 (Int.le_refl _)
  exact ⟨g _ (by omega), (le_quo (by omega)).2 (by omega)⟩
/-- a can fits the meter that is off as it was found -/
theorem can_fits {cs : List (Int × Int)} (hb : cs.any badCan = false) : ∀ {n i : Nat}, i < n → n ≤ cs.length → wlo cs n * (cs.getD i (0, 0)).2 ≤ 1000 * ((cs.getD i (0, 0)).1 - (cs.getD i (0, 0)).2) ∧ 1000 * ((cs.getD i (0, 0)).1 - (cs.getD i (0, 0)).2) ≤ whi cs n * (cs.getD i (0, 0)).2
  | 0, i, hi, _ => absurd hi (Nat.not_lt_zero _)
  | n + 1, i, hi, hn => by
    have hc := no_bad hb (show n < cs.length by omega)
    have h1 := (below_step (cs := cs) (i := n) (s := wlo cs (n + 1)) (by omega)).1 (Int.le_refl _)
    have h2 := (above_step (cs := cs) (i := n) (s := whi cs (n + 1)) (by omega)).1 (Int.le_refl _)
    by_cases e : i = n
    · subst e; exact ⟨h1.2, h2.2⟩
    · have hc' := no_bad hb (show i < cs.length by omega)
      have ih := can_fits hb (show i < n by omega) (show n ≤ cs.length by omega)
      have g1 : wlo cs (n + 1) * (cs.getD i (0, 0)).2 ≤ wlo cs n * (cs.getD i (0, 0)).2 := Int.mul_le_mul_of_nonneg_right h1.1 (by omega)
      have g2 : whi cs n * (cs.getD i (0, 0)).2 ≤ whi cs (n + 1) * (cs.getD i (0, 0)).2 := Int.mul_le_mul_of_nonneg_right h2.1 (by omega)
      omega
theorem wlo_mono (cs : List (Int × Int)) : ∀ {n m : Nat}, n ≤ m → wlo cs m ≤ wlo cs n
  | n, 0, h => by rw [Nat.le_zero.1 h]; exact Int.le_refl _
  | n, m + 1, h => by
    rcases Nat.lt_or_ge n (m + 1) with h1 | h1
    · have := wlo_mono cs (show n ≤ m by omega); simp only [wlo]; omega
    · rw [show n = m + 1 by omega]; exact Int.le_refl _
theorem whi_mono (cs : List (Int × Int)) : ∀ {n m : Nat}, n ≤ m → whi cs n ≤ whi cs m
  | n, 0, h => by rw [Nat.le_zero.1 h]; exact Int.le_refl _
  | n, m + 1, h => by
    rcases Nat.lt_or_ge n (m + 1) with h1 | h1
    · have := whi_mono cs (show n ≤ m by omega); simp only [whi]; omega
    · rw [show n = m + 1 by omega]; exact Int.le_refl _
theorem getD_take {cs : List (Int × Int)} {m i : Nat} (h : i < m) : (cs.take m).getD i (0, 0) = cs.getD i (0, 0) := by
  simp [List.getD, List.getElem?_take, h]
theorem wlo_take (cs : List (Int × Int)) (m : Nat) : ∀ {n : Nat}, n ≤ m → wlo (cs.take m) n = wlo cs n
  | 0, _ => rfl
  | n + 1, h => by simp only [wlo]; rw [wlo_take cs m (by omega), getD_take (by omega)]
theorem whi_take (cs : List (Int × Int)) (m : Nat) : ∀ {n : Nat}, n ≤ m → whi (cs.take m) n = whi cs n
  | 0, _ => rfl
  | n + 1, h => by simp only [whi]; rw [whi_take cs m (by omega), getD_take (by omega)]
end Go.Ax
