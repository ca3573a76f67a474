/-
  Plain: what a meter showed, and by how much it is off.
-/
import Derived.Test.YtjcehnfhkgbpiaaXMX
namespace Go.Ax
set_option linter.unusedSimpArgs false
set_option linter.unusedVariables false
/-- rounded up -/
def upQ (n d : Int) : Int := (n + d - 1) / d
theorem upQ_le {n d t : Int} (hd : 0 < d) : upQ n d ≤ t ↔ n ≤ t * d := by
  unfold upQ
  rw [← Int.lt_add_one_iff, Int.ediv_lt_iff_lt_mul hd, Int.add_mul, Int.one_mul]
  omega
theorem le_quo {n d t : Int} (hd : 0 < d) : t ≤ n / d ↔ t * d ≤ n := Int.le_ediv_iff_mul_le hd
def meterR (shown lo hi : Int) : (Int × Int) × Int :=
  if shown < 0 ∨ 100000 < shown then ((0, 0), 3) else if ¬ (-100 ≤ lo ∧ lo ≤ hi ∧ hi ≤ 100) then ((0, 0), 2)
  else if upQ (1000 * shown) (1000 + hi) ≤ 1000 * shown / (1000 + lo) then ((upQ (1000 * shown) (1000 + hi), 1000 * shown / (1000 + lo)), 0) else ((0, 0), 5)
/-- what is tried lies between these -/
theorem meter_in {shown lo hi t : Int} (hs : 0 ≤ shown) (hl : -100 ≤ lo) (hlh : lo ≤ hi) (hh : hi ≤ 100) (h1 : upQ (1000 * shown) (1000 + hi) ≤ t) (h2 : t ≤ 1000 * shown / (1000 + lo)) : shown * 9 / 10 ≤ t ∧ t ≤ shown * 12 / 10 + 1 ∧ 0 ≤ t := by
  rw [upQ_le (by omega)] at h1
  rw [le_quo (by omega)] at h2
  have ht : 0 ≤ t := by
    rcases Int.lt_or_le t 0 with h | h
    · have : t * (1000 + hi) ≤ -1 * (1000 + hi) := Int.mul_le_mul_of_nonneg_right (by omega) (by omega)
      omega
    · exact h
  have h3 : t * (1000 + hi) ≤ t * 1100 := Int.mul_le_mul_of_nonneg_left (by omega) ht
  have h4 : t * 900 ≤ t * (1000 + lo) := Int.mul_le_mul_of_nonneg_left (by omega) ht
  omega
/-- thousandths, rounded down, of one can -/
def canD (c : Int × Int) : Int := 1000 * (c.1 - c.2) / c.2
def canU (c : Int × Int) : Int := -(-(1000 * (c.1 - c.2)) / c.2)
def wlo (cs : List (Int × Int)) : Nat → Int
  | 0 => 100
  | i + 1 => min (wlo cs i) (canD (cs.getD i (0, 0)))
def whi (cs : List (Int × Int)) : Nat → Int
  | 0 => -100
  | i + 1 => max (whi cs i) (canU (cs.getD i (0, 0)))
theorem wlo_le (cs : List (Int × Int)) : ∀ i, wlo cs i ≤ 100
  | 0 => Int.le_refl _
  | i + 1 => by have := wlo_le cs i; simp only [wlo]; omega
theorem whi_ge (cs : List (Int × Int)) : ∀ i, -100 ≤ whi cs i
  | 0 => Int.le_refl _
  | i + 1 => by have := whi_ge cs i; simp only [whi]; omega
theorem below_step {cs : List (Int × Int)} {i : Nat} {s : Int} (ht : 0 < (cs.getD i (0, 0)).2) : s ≤ wlo cs (i + 1) ↔ s ≤ wlo cs i ∧ s * (cs.getD i (0, 0)).2 ≤ 1000 * ((cs.getD i (0, 0)).1 - (cs.getD i (0, 0)).2) := by
  rw [← le_quo ht]
  simp only [wlo, canD]
  omega
theorem above_step {cs : List (Int × Int)} {i : Nat} {s : Int} (ht : 0 < (cs.getD i (0, 0)).2) : whi cs (i + 1) ≤ s ↔ whi cs i ≤ s ∧ 1000 * ((cs.getD i (0, 0)).1 - (cs.getD i (0, 0)).2) ≤ s * (cs.getD i (0, 0)).2 := by
  have h : -s ≤ -(1000 * ((cs.getD i (0, 0)).1 - (cs.getD i (0, 0)).2)) / (cs.getD i (0, 0)).2 ↔ 1000 * ((cs.getD i (0, 0)).1 - (cs.getD i (0, 0)).2) ≤ s * (cs.getD i (0, 0)).2 := by
    rw [le_quo ht, Int.neg_mul]
    omega
  rw [← h]
  simp only [whi, canU]
  omega
def badCan (c : Int × Int) : Bool := decide (c.1 < 0 ∨ 100000 < c.1 ∨ c.2 < 1 ∨ 100000 < c.2)
def wornR (cs : List (Int × Int)) : (Int × Int) × Int :=
  if cs.length < 1 ∨ 20 < cs.length then ((0, 0), 6) else if cs.any badCan = true then ((0, 0), 3)
  else if -100 ≤ wlo cs cs.length ∧ whi cs cs.length ≤ 100 then ((wlo cs cs.length, whi cs cs.length), 0) else ((0, 0), 2)
end Go.Ax
