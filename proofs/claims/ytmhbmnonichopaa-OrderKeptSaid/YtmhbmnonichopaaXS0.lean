/-
  Contracts: the least costs, by the reference.
-/
import Derived.Test.YtmhbmnonichopaaXR0
namespace Go.Ax
set_option maxHeartbeats 8000000
set_option linter.unusedSimpArgs false
set_option linter.unusedVariables false
variable {lo : Nat} {F : Hp}

abbrev never : Int := 1125899906842624
/-- what a number of loads on a day costs with what is behind it, if it is within the day's bounds -/
def lcand (k : K) (d : Nat) (nxt : Nat → Int) (c x : Nat) : Int := if nd k d ≤ (c : Int) + x ∧ (c : Int) + x ≤ rm k d then (x : Int) * k.costs.getD d 0 + nxt (c + x) else never
/-- the least of the first x numbers of loads, those that lie below m -/
def lmin (k : K) (d m : Nat) (nxt : Nat → Int) (c : Nat) : Nat → Int
  | 0 => never
  | x + 1 => if c + x < m then min (lmin k d m nxt c x) (lcand k d nxt c x) else lmin k d m nxt c x
/-- the least costs from the day on that is i days ahead of the end -/
def lrow (k : K) (m : Nat) : Nat → Nat → Int
  | 0, _ => 0
  | i + 1, c => lmin k (k.sales.length - (i + 1)) m (lrow k m i) c (k.most.toNat + 1)
theorem lmin_le (k : K) (d m : Nat) (nxt : Nat → Int) (c : Nat) : ∀ x, lmin k d m nxt c x ≤ never
  | 0 => Int.le_refl _
  | x + 1 => by
    have := lmin_le k d m nxt c x
    simp only [lmin]
    split
    · omega
    · exact this
theorem lcand_in {k : K} (hv : Vk k) {d : Nat} (hd : d < k.sales.length) {nxt : Nat → Int} (hn : ∀ j, 0 ≤ nxt j ∧ nxt j ≤ never) {c x : Nat} (hx : (x : Int) ≤ k.most) : 0 ≤ lcand k d nxt c x ∧ lcand k d nxt c x ≤ never + 1000000 := by
  have h1 := hv.cost d hd
  have h2 := hv.most2
  have h3 := hn (c + x)
  have h4 : 0 ≤ (x : Int) * k.costs.getD d 0 := Int.mul_nonneg (by omega) h1.1
  have h5 : (x : Int) * k.costs.getD d 0 ≤ 10 * 100000 := Int.mul_le_mul (by omega) h1.2 h1.1 (by omega)
  unfold lcand
  split <;> omega
theorem lmin_in {k : K} (hv : Vk k) {d : Nat} (hd : d < k.sales.length) (m : Nat) {nxt : Nat → Int} (hn : ∀ j, 0 ≤ nxt j ∧ nxt j ≤ never) (c : Nat) : ∀ x : Nat, (x : Int) ≤ k.most + 1 → 0 ≤ lmin k d m nxt c x ∧ lmin k d m nxt c x ≤ never
  | 0, _ => ⟨by simp only [lmin]; decide, Int.le_refl _⟩
  | x + 1, hx => by
    have h1 := lmin_in hv hd m hn c x (by omega)
    have h2 := lcand_in hv hd hn (c := c) (x := x) (by omega)
    simp only [lmin]
    split
    · omega
    · exact h1
theorem lrow_in {k : K} (hv : Vk k) (m : Nat) : ∀ i, i ≤ k.sales.length → ∀ c, 0 ≤ lrow k m i c ∧ lrow k m i c ≤ never
  | 0, _, _ => ⟨Int.le_refl _, by simp only [lrow]; decide⟩
  | i + 1, hi, c => by
    have h1 := hv.most1
    exact lmin_in hv (by omega) m (lrow_in hv m i (by omega)) c _ (by omega)
/-- a row of the least costs -/
def lrowL (k : K) (m i : Nat) : List Int := (List.range m).map (lrow k m i)
theorem lrowL_get (k : K) {m i c : Nat} (h : c < m) : (lrowL k m i).getD c 0 = lrow k m i c := by simp [lrowL, List.getD, h]
theorem lrowL_len (k : K) (m i : Nat) : (lrowL k m i).length = m := by simp [lrowL]
/-- a row, its first c numbers done -/
def part (f : Nat → Int) (m c : Nat) : List Int := (List.range m).map fun j => if j < c then f j else 0
theorem part_len (f : Nat → Int) (m c : Nat) : (part f m c).length = m := by simp [part]
theorem part_zero (f : Nat → Int) (m : Nat) : part f m 0 = List.replicate m 0 := by
  refine List.ext_getElem? fun i => ?_
  by_cases h : i < m <;> simp [part, h]
theorem part_set (f : Nat → Int) {m c : Nat} (h : c < m) : (part f m c).set c (f c) = part f m (c + 1) := by
  refine List.ext_getElem? fun i => ?_
  rw [List.getElem?_set, part_len]
  by_cases hi : i < m
  · by_cases hc : c = i
    · subst hc; simp [part, hi]
    · rw [if_neg hc]
      simp only [part, List.getElem?_map, List.getElem?_range hi, Option.map_some, Option.some.injEq]
      by_cases h1 : i < c
      · rw [if_pos h1, if_pos (by omega)]
      · rw [if_neg h1, if_neg (by omega)]
  · rw [List.getElem?_eq_none (by simp [part]; omega)]
    by_cases hc : c = i
    · omega
    · rw [if_neg hc, List.getElem?_eq_none (by simp [part]; omega)]
theorem part_all (f : Nat → Int) (m : Nat) : part f m m = (List.range m).map f := by
  refine List.map_congr_left fun j hj => ?_
  rw [if_pos (List.mem_range.1 hj)]
theorem part_set2 (f : Nat → Int) {m c : Nat} (h : c < m) (u v : Int) : ((part f m c).set c u).set c v = (part f m c).set c v := List.set_set ..
end Go.Ax
