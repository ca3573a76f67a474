/-
  Plain: good plans, the least costs, the best plan. No program in sight.
-/
import Derived.Test.YtmhbmnonichopaaXS0
namespace Go.Ax
set_option linter.unusedSimpArgs false
set_option linter.unusedVariables false

/-- a good plan -/
structure Good (k : K) (plan : List Int) : Prop where
  len : plan.length = k.sales.length
  day : ∀ d, d < k.sales.length → 0 ≤ plan.getD d 0 ∧ plan.getD d 0 ≤ k.most
  fit : ∀ d, d < k.sales.length → nd k d ≤ pl plan (d + 1) ∧ pl plan (d + 1) ≤ rm k d

/-! ### From a day on -/
def okS (k : K) : Nat → Int → List Int → Prop
  | _, _, [] => True
  | d, c, x :: xs => (0 ≤ x ∧ x ≤ k.most) ∧ (nd k d ≤ c + x ∧ c + x ≤ rm k d) ∧ okS k (d + 1) (c + x) xs
def coS (k : K) : Nat → List Int → Int
  | _, [] => 0
  | d, x :: xs => x * k.costs.getD d 0 + coS k (d + 1) xs
theorem pl_cons (x : Int) (xs : List Int) : ∀ j, pl (x :: xs) (j + 1) = x + pl xs j
  | 0 => by simp [pl]
  | j + 1 => by
    have := pl_cons x xs j
    simp only [pl, List.getD_cons_succ] at this ⊢
    omega
theorem okS_iff {k : K} : ∀ {xs : List Int} {d : Nat} {c : Int}, okS k d c xs ↔ ∀ j, j < xs.length → (0 ≤ xs.getD j 0 ∧ xs.getD j 0 ≤ k.most) ∧ nd k (d + j) ≤ c + pl xs (j + 1) ∧ c + pl xs (j + 1) ≤ rm k (d + j)
  | [], _, _ => ⟨fun _ j hj => absurd hj (Nat.not_lt_zero _), fun _ => trivial⟩
  | x :: xs, d, c => by
    have ih := @okS_iff k xs (d + 1) (c + x)
    simp only [okS, ih]
    constructor
    · rintro ⟨h1, h2, h3⟩ j hj
      cases j with
      | zero => simp only [List.getD_cons_zero, Nat.add_zero, pl, Int.zero_add]; exact ⟨h1, h2⟩
      | succ j =>
        have := h3 j (by simpa using hj)
        rw [pl_cons, List.getD_cons_succ, show d + (j + 1) = d + 1 + j by omega]
        exact ⟨this.1, by omega, by omega⟩
    · intro h
      have h0 := h 0 (by simp)
      simp only [List.getD_cons_zero, Nat.add_zero, pl, Int.zero_add] at h0
      refine ⟨h0.1, h0.2, fun j hj => ?_⟩
      have := h (j + 1) (by simpa using hj)
      rw [pl_cons, List.getD_cons_succ, show d + (j + 1) = d + 1 + j by omega] at this
      exact ⟨this.1, by omega, by omega⟩
def pcd (k : K) (d : Nat) (xs : List Int) : Nat → Int
  | 0 => 0
  | j + 1 => pcd k d xs j + xs.getD j 0 * k.costs.getD (d + j) 0
theorem pcd_cons (k : K) (d : Nat) (x : Int) (xs : List Int) : ∀ j, pcd k d (x :: xs) (j + 1) = x * k.costs.getD d 0 + pcd k (d + 1) xs j
  | 0 => by simp [pcd]
  | j + 1 => by
    have := pcd_cons k d x xs j
    rw [pcd, this, pcd, List.getD_cons_succ, show d + (j + 1) = d + 1 + j by omega]
    omega
theorem coS_pcd (k : K) : ∀ (xs : List Int) (d : Nat), coS k d xs = pcd k d xs xs.length
  | [], _ => rfl
  | x :: xs, d => by rw [coS, List.length_cons, pcd_cons, coS_pcd k xs]
theorem pcd_pc (k : K) (plan : List Int) : ∀ j, pcd k 0 plan j = pc k plan j
  | 0 => rfl
  | j + 1 => by rw [pcd, pc, pcd_pc k plan j, Nat.zero_add]
theorem good_okS {k : K} {plan : List Int} : Good k plan ↔ plan.length = k.sales.length ∧ okS k 0 0 plan := by
  rw [okS_iff]
  constructor
  · intro h
    refine ⟨h.len, fun j hj => ?_⟩
    have := h.fit j (h.len ▸ hj)
    rw [Nat.zero_add, Int.zero_add]
    exact ⟨h.day j (h.len ▸ hj), this⟩
  · rintro ⟨hl, h⟩
    have h : ∀ j, j < k.sales.length → (0 ≤ plan.getD j 0 ∧ plan.getD j 0 ≤ k.most) ∧ nd k j ≤ pl plan (j + 1) ∧ pl plan (j + 1) ≤ rm k j := fun j hj => by
      have := h j (hl ▸ hj)
      rw [Nat.zero_add, Int.zero_add] at this
      exact this
    exact ⟨hl, fun d hd => (h d hd).1, fun d hd => (h d hd).2⟩
theorem pc_coS {k : K} {plan : List Int} (hl : plan.length = k.sales.length) : pc k plan k.sales.length = coS k 0 plan := by
  rw [coS_pcd, pcd_pc, hl]
/-- what a suffix costs -/
theorem coS_in {k : K} (hv : Vk k) : ∀ {xs : List Int} {d : Nat} {c : Int}, d + xs.length ≤ k.sales.length → okS k d c xs → 0 ≤ coS k d xs ∧ coS k d xs ≤ 1000000 * xs.length
  | [], _, _, _, _ => by simp [coS]
  | x :: xs, d, c, hd, h => by
    obtain ⟨h1, h2, h3⟩ := h
    have hd' : d + (xs.length + 1) ≤ k.sales.length := hd
    have ih := coS_in hv (show d + 1 + xs.length ≤ k.sales.length by omega) h3
    have hc := hv.cost d (by omega)
    have hm := hv.most2
    have h4 : 0 ≤ x * k.costs.getD d 0 := Int.mul_nonneg h1.1 hc.1
    have h5 : x * k.costs.getD d 0 ≤ 10 * 100000 := Int.mul_le_mul (by omega) hc.2 hc.1 (by omega)
    simp only [coS, List.length_cons]
    omega

/-! ### The least costs are least -/
theorem lmin_le_cand {k : K} {d m c : Nat} {nxt : Nat → Int} : ∀ {X x : Nat}, x < X → c + x < m → lmin k d m nxt c X ≤ lcand k d nxt c x
  | 0, _, hx, _ => absurd hx (Nat.not_lt_zero _)
  | X + 1, x, hx, hm => by
    simp only [lmin]
    rcases Nat.lt_succ_iff_lt_or_eq.1 hx with h | rfl
    · have := @lmin_le_cand k d m c nxt X x h hm
      split <;> omega
    · rw [if_pos hm]; omega
theorem lmin_get {k : K} {d m c : Nat} {nxt : Nat → Int} : ∀ {X : Nat}, lmin k d m nxt c X < never → ∃ x, x < X ∧ c + x < m ∧ lcand k d nxt c x = lmin k d m nxt c X
  | 0, h => by simp only [lmin] at h; omega
  | X + 1, h => by
    simp only [lmin] at h ⊢
    by_cases hm : c + X < m
    · rw [if_pos hm] at h ⊢
      by_cases hc : lcand k d nxt c X ≤ lmin k d m nxt c X
      · exact ⟨X, by omega, hm, by omega⟩
      · obtain ⟨x, h1, h2, h3⟩ := lmin_get (X := X) (k := k) (d := d) (m := m) (c := c) (nxt := nxt) (by omega)
        exact ⟨x, by omega, h2, by omega⟩
    · rw [if_neg hm] at h ⊢
      obtain ⟨x, h1, h2, h3⟩ := lmin_get h
      exact ⟨x, by omega, h2, h3⟩
theorem mOf_def (k : K) : k.sales.length * k.most.toNat + 1 = k.sales.length * k.most.toNat + 1 := rfl
abbrev mK (k : K) : Nat := k.sales.length * k.most.toNat + 1
theorem below_m {k : K} {i c x : Nat} (hi : i + 1 ≤ k.sales.length) (hc : c ≤ (k.sales.length - (i + 1)) * k.most.toNat) (hx : x ≤ k.most.toNat) : c + x < mK k ∧ c + x ≤ (k.sales.length - i) * k.most.toNat := by
  have h1 : (k.sales.length - i) * k.most.toNat = (k.sales.length - (i + 1)) * k.most.toNat + k.most.toNat := by
    rw [show k.sales.length - i = (k.sales.length - (i + 1)) + 1 by omega, Nat.succ_mul]
  have h2 : (k.sales.length - i) * k.most.toNat ≤ k.sales.length * k.most.toNat := Nat.mul_le_mul_right _ (by omega)
  unfold mK
  omega
theorem lrow_le {k : K} (hv : Vk k) : ∀ (i : Nat), i ≤ k.sales.length → ∀ (c : Nat), c ≤ (k.sales.length - i) * k.most.toNat → ∀ xs : List Int, xs.length = i → okS k (k.sales.length - i) c xs → lrow k (mK k) i c ≤ coS k (k.sales.length - i) xs
  | 0, _, c, _, xs, hl, _ => by
    have : xs = [] := List.length_eq_zero_iff.1 hl
    subst this
    simp [lrow, coS]
  | i + 1, hi, c, hc, [], hl, _ => by cases hl
  | i + 1, hi, c, hc, x :: xs, hl, h => by
    obtain ⟨⟨h1, h1'⟩, h2, h3⟩ := h
    obtain ⟨xn, rfl⟩ := Int.eq_ofNat_of_zero_le h1
    have hb := below_m hi hc (x := xn) (by omega)
    have e : k.sales.length - (i + 1) + 1 = k.sales.length - i := by omega
    rw [e] at h3
    have ih := lrow_le hv i (by omega) (c + xn) hb.2 xs (by simpa using hl) (by rw [Int.natCast_add]; exact h3)
    have hm := lmin_le_cand (k := k) (d := k.sales.length - (i + 1)) (m := mK k) (c := c) (nxt := lrow k (mK k) i) (X := k.most.toNat + 1) (x := xn) (by omega) hb.1
    have hl : lcand k (k.sales.length - (i + 1)) (lrow k (mK k) i) c xn = (xn : Int) * k.costs.getD (k.sales.length - (i + 1)) 0 + lrow k (mK k) i (c + xn) := if_pos h2
    simp only [lrow, coS, e]
    omega

/-! ### The first number at which it holds -/
def fstx (p : Nat → Bool) (n : Nat) : Nat := match (List.range n).find? p with | some x => x | none => 0
theorem fstx_eq {p : Nat → Bool} {n x : Nat} (hx : x < n) (hp : p x = true) (hb : ∀ y, y < x → p y = false) : fstx p n = x := by
  unfold fstx
  have : (List.range n).find? p = some x := by
    rw [List.find?_range_eq_some]
    exact ⟨hp, by simpa using hx, fun j hj => by simpa using hb j hj⟩
  rw [this]
theorem fstx_spec {p : Nat → Bool} {n x : Nat} (hx : x < n) (hp : p x = true) : fstx p n ≤ x ∧ p (fstx p n) = true ∧ ∀ y, y < fstx p n → p y = false := by
  cases h : (List.range n).find? p with
  | none =>
    rw [List.find?_eq_none] at h
    exact absurd hp (h x (by simpa using hx))
  | some y =>
    have e : fstx p n = y := by unfold fstx; rw [h]
    rw [e]
    rw [List.find?_range_eq_some] at h
    obtain ⟨h1, h2, h3⟩ := h
    have h3 : ∀ z, z < y → p z = false := fun z hz => by simpa using h3 z hz
    refine ⟨?_, h1, h3⟩
    by_cases hxy : y ≤ x
    · exact hxy
    · rw [h3 x (by omega)] at hp; cases hp
/-- is it within the day's bounds, and as cheap as told? -/
def gd (k : K) (d : Nat) (nxt : Nat → Int) (c : Nat) (v : Int) (x : Nat) : Bool := decide ((nd k d ≤ (c : Int) + x ∧ (c : Int) + x ≤ rm k d) ∧ (x : Int) * k.costs.getD d 0 + nxt (c + x) = v)
theorem gd_iff {k : K} {d c x : Nat} {nxt : Nat → Int} {v : Int} : gd k d nxt c v x = true ↔ (nd k d ≤ (c : Int) + x ∧ (c : Int) + x ≤ rm k d) ∧ (x : Int) * k.costs.getD d 0 + nxt (c + x) = v := by simp [gd]
theorem gd_cand {k : K} {d c x : Nat} {nxt : Nat → Int} {v : Int} (hv : v < never) : gd k d nxt c v x = true ↔ lcand k d nxt c x = v := by
  rw [gd_iff]
  unfold lcand
  by_cases h : nd k d ≤ (c : Int) + x ∧ (c : Int) + x ≤ rm k d
  · rw [if_pos h]; exact ⟨fun h => h.2, fun h' => ⟨h, h'⟩⟩
  · rw [if_neg h]; exact ⟨fun h' => absurd h'.1 h, fun h' => by omega⟩
/-- the first of the cheapest numbers of loads of the day that is i days ahead of the end -/
def bx (k : K) (i c : Nat) : Nat := fstx (gd k (k.sales.length - (i + 1)) (lrow k (mK k) i) c (lrow k (mK k) (i + 1) c)) (k.most.toNat + 1)
def bsuf (k : K) : Nat → Nat → List Int
  | 0, _ => []
  | i + 1, c => (bx k i c : Int) :: bsuf k i (c + bx k i c)
theorem bx_spec {k : K} (hv : Vk k) {i c : Nat} (hi : i + 1 ≤ k.sales.length) (hc : c ≤ (k.sales.length - (i + 1)) * k.most.toNat) (hl : lrow k (mK k) (i + 1) c < never) :
    bx k i c ≤ k.most.toNat ∧ gd k (k.sales.length - (i + 1)) (lrow k (mK k) i) c (lrow k (mK k) (i + 1) c) (bx k i c) = true ∧ (∀ y, y < bx k i c → gd k (k.sales.length - (i + 1)) (lrow k (mK k) i) c (lrow k (mK k) (i + 1) c) y = false) ∧
      lrow k (mK k) i (c + bx k i c) < never := by
  obtain ⟨x, h1, h2, h3⟩ := lmin_get (show lmin k (k.sales.length - (i + 1)) (mK k) (lrow k (mK k) i) c (k.most.toNat + 1) < never from hl)
  obtain ⟨g1, g2, g3⟩ := fstx_spec h1 ((gd_cand hl).2 h3)
  refine ⟨show bx k i c ≤ _ by unfold bx; omega, g2, g3, ?_⟩
  have g4 := (gd_iff.1 g2).2
  have hc := hv.cost (k.sales.length - (i + 1)) (by omega)
  have h4 : 0 ≤ (bx k i c : Int) * k.costs.getD (k.sales.length - (i + 1)) 0 := Int.mul_nonneg (by omega) hc.1
  have g4 : (bx k i c : Int) * k.costs.getD (k.sales.length - (i + 1)) 0 + lrow k (mK k) i (c + bx k i c) = lrow k (mK k) (i + 1) c := g4
  omega

/-- which of two lists comes first -/
def before : List Int → List Int → Bool
  | [], b => !b.isEmpty
  | _ :: _, [] => false
  | x :: a, y :: b => if x = y then before a b else decide (x < y)
theorem bsuf_best {k : K} (hv : Vk k) : ∀ (i : Nat), i ≤ k.sales.length → ∀ (c : Nat), c ≤ (k.sales.length - i) * k.most.toNat → lrow k (mK k) i c < never →
    (bsuf k i c).length = i ∧ okS k (k.sales.length - i) c (bsuf k i c) ∧ coS k (k.sales.length - i) (bsuf k i c) = lrow k (mK k) i c ∧
      ∀ xs : List Int, xs.length = i → okS k (k.sales.length - i) c xs → coS k (k.sales.length - i) xs = lrow k (mK k) i c → before xs (bsuf k i c) = false
  | 0, _, c, _, _ => ⟨rfl, trivial, by simp [bsuf, coS, lrow], fun xs hl _ _ => by rw [List.length_eq_zero_iff.1 hl]; rfl⟩
  | i + 1, hi, c, hc, hl => by
    obtain ⟨g1, g2, g3, g4⟩ := bx_spec hv hi hc hl
    have g2' := gd_iff.1 g2
    have hb := below_m hi hc (x := bx k i c) g1
    obtain ⟨i1, i2, i3, i4⟩ := bsuf_best hv i (by omega) (c + bx k i c) hb.2 g4
    have e : k.sales.length - (i + 1) + 1 = k.sales.length - i := by omega
    have hm := hv.most1
    refine ⟨by simp [bsuf, i1], ?_, ?_, ?_⟩
    · simp only [bsuf, okS, e]
      exact ⟨⟨by omega, by omega⟩, g2'.1, by rw [← Int.natCast_add]; exact i2⟩
    · simp only [bsuf, coS, e]
      rw [i3]; exact g2'.2
    · intro xs hxl hok hco
      cases xs with
      | nil => cases hxl
      | cons x xs =>
        obtain ⟨⟨h1, h1'⟩, h2, h3⟩ := hok
        obtain ⟨xn, rfl⟩ := Int.eq_ofNat_of_zero_le h1
        rw [e] at h3
        rw [← Int.natCast_add] at h3
        have hbx := below_m hi hc (x := xn) (by omega)
        have hle := lrow_le hv i (by omega) (c + xn) hbx.2 xs (by simpa using hxl) h3
        have hmin := lmin_le_cand (k := k) (d := k.sales.length - (i + 1)) (m := mK k) (c := c) (nxt := lrow k (mK k) i) (X := k.most.toNat + 1) (x := xn) (by omega) hbx.1
        have hcand : lcand k (k.sales.length - (i + 1)) (lrow k (mK k) i) c xn = (xn : Int) * k.costs.getD (k.sales.length - (i + 1)) 0 + lrow k (mK k) i (c + xn) := if_pos h2
        simp only [coS, e] at hco
        have hlr : lrow k (mK k) (i + 1) c = lmin k (k.sales.length - (i + 1)) (mK k) (lrow k (mK k) i) c (k.most.toNat + 1) := rfl
        have hgd : gd k (k.sales.length - (i + 1)) (lrow k (mK k) i) c (lrow k (mK k) (i + 1) c) xn = true := gd_iff.2 ⟨h2, by omega⟩
        have hxy : bx k i c ≤ xn := by
          by_cases hxy : bx k i c ≤ xn
          · exact hxy
          · rw [g3 xn (by omega)] at hgd; cases hgd
        simp only [bsuf, before]
        by_cases hne : xn = bx k i c
        · subst hne
          rw [if_pos rfl]
          exact i4 xs (by simpa using hxl) h3 (by omega)
        · rw [if_neg (by omega)]
          simp; omega

/-- the best plan, what it costs, the error -/
def bestR (k : K) : List Int × Int × Int :=
  if chk k ≠ 0 then ([], 0, chk k) else if never ≤ lrow k (mK k) k.sales.length 0 then ([], 0, 13) else (bsuf k k.sales.length 0, lrow k (mK k) k.sales.length 0, 0)
theorem best_chk {k : K} (h : chk k ≠ 0) : bestR k = ([], 0, chk k) := if_pos h
theorem best_no {k : K} (h : chk k = 0) (h2 : never ≤ lrow k (mK k) k.sales.length 0) : bestR k = ([], 0, 13) := by unfold bestR; rw [if_neg (by omega), if_pos h2]
theorem best_go {k : K} (h : chk k = 0) (h2 : lrow k (mK k) k.sales.length 0 < never) : bestR k = (bsuf k k.sales.length 0, lrow k (mK k) k.sales.length 0, 0) := by unfold bestR; rw [if_neg (by omega), if_neg (by omega)]
/-- what is known of the best plan -/
theorem best_none {k : K} (h : chk k = 0) (h2 : never ≤ lrow k (mK k) k.sales.length 0) (plan : List Int) : ¬ Good k plan := fun hg => by
  have hv := Vk.of h
  obtain ⟨hl, ho⟩ := good_okS.1 hg
  have h3 := lrow_le hv k.sales.length (Nat.le_refl _) 0 (Nat.zero_le _) plan hl (by rw [Nat.sub_self]; exact ho)
  rw [Nat.sub_self] at h3
  have h4 := coS_in hv (by rw [hl]; omega) ho
  have := hv.n2
  have hn : never = 1125899906842624 := rfl
  omega
theorem best_some {k : K} (h : chk k = 0) (h2 : lrow k (mK k) k.sales.length 0 < never) : Good k (bsuf k k.sales.length 0) ∧ pc k (bsuf k k.sales.length 0) k.sales.length = lrow k (mK k) k.sales.length 0 ∧
    ∀ plan, Good k plan → lrow k (mK k) k.sales.length 0 ≤ pc k plan k.sales.length ∧ (pc k plan k.sales.length = lrow k (mK k) k.sales.length 0 → before plan (bsuf k k.sales.length 0) = false) := by
  have hv := Vk.of h
  obtain ⟨b1, b2, b3, b4⟩ := bsuf_best hv k.sales.length (Nat.le_refl _) 0 (Nat.zero_le _) h2
  rw [Nat.sub_self] at b2 b3 b4
  refine ⟨good_okS.2 ⟨b1, b2⟩, by rw [pc_coS b1, b3], fun plan hg => ?_⟩
  obtain ⟨hl, ho⟩ := good_okS.1 hg
  have h3 := lrow_le hv k.sales.length (Nat.le_refl _) 0 (Nat.zero_le _) plan hl (by rw [Nat.sub_self]; exact ho)
  rw [Nat.sub_self] at h3
  rw [pc_coS hl]
  exact ⟨h3, fun he => b4 plan hl ho he⟩

/-! ### What a plan costs -/
theorem cpg_ok {k : K} {plan : List Int} : ∀ {m d : Nat}, (∀ j, d ≤ j → j < d + m → nd k j ≤ pl plan (j + 1) ∧ pl plan (j + 1) ≤ rm k j) → cpg k plan d m = (pc k plan (d + m), 0)
  | 0, d, _ => rfl
  | m + 1, d, h => by
    have h0 := h d (Nat.le_refl _) (by omega)
    unfold cpg
    rw [if_neg (by omega), if_neg (by omega), cpg_ok fun j h1 h2 => h j (by omega) (by omega), show d + 1 + m = d + (m + 1) by omega]
theorem cpg_bad {k : K} {plan : List Int} : ∀ {m d : Nat} {j : Nat}, d ≤ j → j < d + m → ¬ (nd k j ≤ pl plan (j + 1) ∧ pl plan (j + 1) ≤ rm k j) →
    (cpg k plan d m).1 = 0 ∧ ∃ i, d ≤ i ∧ i < d + m ∧ (∀ t, d ≤ t → t < i → nd k t ≤ pl plan (t + 1) ∧ pl plan (t + 1) ≤ rm k t) ∧ ((rm k i < pl plan (i + 1) ∧ (cpg k plan d m).2 = 10) ∨ (pl plan (i + 1) < nd k i ∧ pl plan (i + 1) ≤ rm k i ∧ (cpg k plan d m).2 = 20))
  | 0, d, j, h1, h2, _ => by omega
  | m + 1, d, j, h1, h2, h3 => by
    unfold cpg
    by_cases c1 : rm k d < pl plan (d + 1)
    · rw [if_pos c1]
      exact ⟨rfl, d, Nat.le_refl _, by omega, fun t _ _ => by omega, .inl ⟨c1, rfl⟩⟩
    · rw [if_neg c1]
      by_cases c2 : pl plan (d + 1) < nd k d
      · rw [if_pos c2]
        exact ⟨rfl, d, Nat.le_refl _, by omega, fun t _ _ => by omega, .inr ⟨c2, by omega, rfl⟩⟩
      · rw [if_neg c2]
        have hne : d ≠ j := by rintro rfl; omega
        obtain ⟨g1, i, g2, g3, g4, g5⟩ := cpg_bad (k := k) (plan := plan) (m := m) (d := d + 1) (j := j) (by omega) (by omega) h3
        refine ⟨g1, i, by omega, by omega, fun t ht1 ht2 => ?_, g5⟩
        by_cases e : t = d
        · subst e; omega
        · exact g4 t (by omega) ht2
theorem cpv_good {k : K} {plan : List Int} (h : chk k = 0) (hg : Good k plan) : cpv k plan = (pc k plan k.sales.length, 0) := by
  have hoff : offPlan k plan = false := (any_false_getD _ plan 0).2 fun j hj => by have := hg.day j (hg.len ▸ hj); simp only [decide_eq_false_iff_not]; omega
  unfold cpv
  rw [if_neg (by omega), if_neg (fun h => h hg.len), if_neg (by rw [hoff]; simp), cpg_ok fun j _ hj => hg.fit j (by omega), Nat.zero_add]
theorem cpv_zero {k : K} {plan : List Int} (h : (cpv k plan).2 = 0) : chk k = 0 ∧ Good k plan ∧ (cpv k plan).1 = pc k plan k.sales.length := by
  have h0 := h
  unfold cpv at h
  split at h
  · rename_i hc; exact absurd h hc
  · rename_i hc
    split at h
    · cases h
    · rename_i hl
      split at h
      · cases h
      · rename_i ho
        have hc : chk k = 0 := by omega
        have ho : offPlan k plan = false := by simpa using ho
        have hl : plan.length = k.sales.length := by omega
        have hg : Good k plan := ⟨hl, fun d hd => on_plan ho (hl ▸ hd), fun d hd => by
          by_cases hf : nd k d ≤ pl plan (d + 1) ∧ pl plan (d + 1) ≤ rm k d
          · exact hf
          · obtain ⟨_, i, _, _, _, h5⟩ := cpg_bad (m := k.sales.length) (Nat.zero_le d) (by omega) hf
            rcases h5 with ⟨_, h5⟩ | ⟨_, _, h5⟩ <;> omega⟩
        exact ⟨hc, hg, by rw [cpv_good hc hg]⟩
end Go.Ax
