/-
  Plain: days that contradict each other, and plans; levels of a good plan.
-/
import Derived.Test.YtmhbmnonichopaaXM0
import Derived.Test.YtmhbmnonichopaaXR0
import Derived.Test.YtmhbmnonichopaaXQ0
namespace Go.Ax
set_option linter.unusedSimpArgs false
set_option linter.unusedVariables false

theorem lf_mono {k : K} (hv : Vk k) : ∀ {i j : Nat}, i ≤ j → j ≤ k.sales.length → lf k i ≤ lf k j
  | i, 0, h, _ => by rw [Nat.le_zero.1 h]; exact Int.le_refl _
  | i, j + 1, h, hj => by
    rcases Nat.lt_or_ge i (j + 1) with h1 | h1
    · have := lf_mono hv (i := i) (j := j) (by omega) (by omega)
      have := hv.sale j (by omega)
      simp only [lf]; omega
    · rw [show i = j + 1 by omega]; exact Int.le_refl _
theorem rm_mono {k : K} (hv : Vk k) {i j : Nat} (h : i ≤ j) (hj : j < k.sales.length) : rm k i ≤ rm k j := by
  unfold rm
  exact Int.ediv_le_ediv (by have := hv.load1; omega) (lf_mono hv h (by omega))
theorem rm_le {k : K} (hv : Vk k) (d : Nat) : rm k d * k.load ≤ lf k d := by unfold rm; exact Int.ediv_mul_le _ (by have := hv.load1; omega)
theorem rm_iff {k : K} (hv : Vk k) {d : Nat} {p : Int} : p ≤ rm k d ↔ p * k.load ≤ lf k d := by
  unfold rm; exact Int.le_ediv_iff_mul_le (by have := hv.load1; omega)
theorem nd_iff {k : K} (hv : Vk k) {d : Nat} {p : Int} (hp : 0 ≤ p) : nd k d ≤ p ↔ lk k (d + 1) ≤ p * k.load := by
  have h1 := hv.load1
  have hpl : 0 ≤ p * k.load := Int.mul_nonneg hp (by omega)
  unfold nd
  split
  · rename_i h
    constructor
    · intro h2
      have : (lk k (d + 1) - 1) / k.load < p := by omega
      have := (Int.ediv_lt_iff_lt_mul (show 0 < k.load by omega)).1 this
      omega
    · intro h2
      have : (lk k (d + 1) - 1) / k.load < p := (Int.ediv_lt_iff_lt_mul (show 0 < k.load by omega)).2 (by omega)
      omega
  · rename_i h
    constructor
    · intro _; omega
    · intro _; exact hp

/-! ### Is there a plan? -/
def gS (k : K) : Nat → Int
  | 0 => 0
  | d + 1 => min (gS k d + k.most) (rm k d)
theorem gS_le {k : K} (hv : Vk k) : ∀ d, d < k.sales.length → gS k d ≤ rm k d
  | 0, h => by have := (rm_in hv h).1; simp only [gS]; omega
  | d + 1, h => by
    have := rm_mono hv (show d ≤ d + 1 by omega) h
    simp only [gS]; omega
theorem gS_nonneg {k : K} (hv : Vk k) : ∀ d, d ≤ k.sales.length → 0 ≤ gS k d
  | 0, _ => by simp [gS]
  | d + 1, h => by
    have := gS_nonneg hv d (by omega)
    have := (rm_in hv (show d < k.sales.length by omega)).1
    have := hv.most1
    simp only [gS]; omega
theorem gS_form {k : K} : ∀ d, ∃ a, a ≤ d ∧ gS k d = rmz k a + ((d : Int) - a) * k.most
  | 0 => ⟨0, Nat.le_refl _, by simp [gS, rmz]⟩
  | d + 1 => by
    obtain ⟨a, h1, h2⟩ := @gS_form k d
    simp only [gS]
    by_cases h : gS k d + k.most ≤ rm k d
    · refine ⟨a, by omega, ?_⟩
      rw [show min (gS k d + k.most) (rm k d) = gS k d + k.most by omega, h2]
      rw [show ((d + 1 : Nat) : Int) - a = ((d : Int) - a) + 1 by omega, Int.add_mul]
      omega
    · refine ⟨d + 1, Nat.le_refl _, ?_⟩
      rw [show min (gS k d + k.most) (rm k d) = rm k d by omega]
      simp [rmz]
def gPlan (k : K) : List Int := (List.range k.sales.length).map fun d => gS k (d + 1) - gS k d
theorem gPlan_get {k : K} {d : Nat} (h : d < k.sales.length) : (gPlan k).getD d 0 = gS k (d + 1) - gS k d := by simp [gPlan, List.getD, h]
theorem gPlan_pl {k : K} : ∀ d, d ≤ k.sales.length → pl (gPlan k) d = gS k d
  | 0, _ => rfl
  | d + 1, h => by rw [pl, gPlan_pl d (by omega), gPlan_get (by omega)]; omega
theorem good_of_noclash {k : K} (hv : Vk k) (h : ∀ a j, a ≤ j + 1 → j < k.sales.length → ¬ badPair k a j) : Good k (gPlan k) := by
  refine ⟨by simp [gPlan], fun d hd => ?_, fun d hd => ?_⟩
  · rw [gPlan_get hd]
    have h1 := gS_le hv d hd
    have := hv.most1
    simp only [gS]; omega
  · rw [gPlan_pl _ (by omega)]
    obtain ⟨a, h1, h2⟩ := @gS_form k (d + 1)
    have h3 := h a d h1 hd
    unfold badPair at h3
    have e : (((d + 1 : Nat) : Int) - a) = (d : Int) - ((a : Int) - 1) := by omega
    rw [e] at h2
    have h4 : gS k (d + 1) ≤ rm k d := by simp only [gS]; omega
    exact ⟨by omega, h4⟩
theorem pl_most {k : K} {plan : List Int} (hg : Good k plan) : ∀ (m a : Nat), a + m ≤ k.sales.length → pl plan (a + m) ≤ pl plan a + m * k.most
  | 0, a, _ => by simp
  | m + 1, a, h => by
    have := pl_most hg m a (by omega)
    have h2 := (hg.day (a + m) (by omega)).2
    rw [show a + (m + 1) = a + m + 1 by omega, pl, Int.natCast_succ, Int.add_mul]
    omega
theorem noclash_of_good {k : K} {plan : List Int} (hg : Good k plan) {a j : Nat} (h1 : a ≤ j + 1) (h2 : j < k.sales.length) : ¬ badPair k a j := by
  unfold badPair
  have h3 := (hg.fit j h2).1
  have h4 := pl_most hg (j + 1 - a) a (by omega)
  rw [show a + (j + 1 - a) = j + 1 by omega] at h4
  have e : ((j : Int) - ((a : Int) - 1)) = ((j + 1 - a : Nat) : Int) := by omega
  rw [e]
  have h5 : pl plan a ≤ rmz k a := by
    unfold rmz
    split
    · rename_i h0; subst h0; exact Int.le_refl _
    · rename_i h0
      have := (hg.fit (a - 1) (by omega)).2
      rw [show a - 1 + 1 = a by omega] at this
      exact this
  omega
theorem cIn_none {k : K} {a : Nat} : ∀ {m j : Nat}, cIn k a j m = none ↔ ∀ t, j ≤ t → t < j + m → ¬ badPair k a t
  | 0, j => ⟨fun _ t h1 h2 => by omega, fun _ => rfl⟩
  | m + 1, j => by
    unfold cIn
    split
    · rename_i hb
      exact ⟨fun h => (nomatch h), fun h => absurd hb (h j (Nat.le_refl _) (by omega))⟩
    · rename_i hb
      rw [cIn_none (m := m)]
      constructor
      · intro h t h1 h2
        by_cases e : t = j
        · subst e; exact hb
        · exact h t (by omega) (by omega)
      · exact fun h t h1 h2 => h t (by omega) (by omega)
theorem cIn_some {k : K} {a r : Nat} : ∀ {m j : Nat}, cIn k a j m = some r → j ≤ r ∧ r < j + m ∧ badPair k a r
  | 0, j, h => nomatch h
  | m + 1, j, h => by
    unfold cIn at h
    split at h
    · rename_i hb; cases h; exact ⟨Nat.le_refl _, by omega, hb⟩
    · obtain ⟨h1, h2, h3⟩ := cIn_some (m := m) h
      exact ⟨by omega, by omega, h3⟩
theorem cOut_none {k : K} {n : Nat} : ∀ {m a : Nat}, cOut k n a m = none ↔ ∀ s, a ≤ s → s < a + m → ∀ t, s - 1 ≤ t → t < n → ¬ badPair k s t
  | 0, a => ⟨fun _ s h1 h2 => by omega, fun _ => rfl⟩
  | m + 1, a => by
    unfold cOut
    cases hc : cIn k a (a - 1) (n - (a - 1)) with
    | some j =>
      obtain ⟨h1, h2, h3⟩ := cIn_some hc
      exact ⟨fun h => (nomatch h), fun h => absurd h3 (h a (Nat.le_refl _) (by omega) j h1 (by omega))⟩
    | none =>
      have hc := cIn_none.1 hc
      simp only
      rw [cOut_none (m := m)]
      constructor
      · intro h s h1 h2 t h3 h4
        by_cases e : s = a
        · subst e; exact hc t h3 (by omega)
        · exact h s (by omega) (by omega) t h3 h4
      · exact fun h s h1 h2 => h s (by omega) (by omega)
theorem cOut_some {k : K} {n : Nat} {i : Int} {j : Nat} : ∀ {m a : Nat}, cOut k n a m = some (i, j) → ∃ s : Nat, i = (s : Int) - 1 ∧ a ≤ s ∧ s < a + m ∧ s - 1 ≤ j ∧ j < n ∧ badPair k s j
  | 0, a, h => nomatch h
  | m + 1, a, h => by
    unfold cOut at h
    cases hc : cIn k a (a - 1) (n - (a - 1)) with
    | some j' =>
      rw [hc] at h
      cases h
      obtain ⟨h1, h2, h3⟩ := cIn_some hc
      exact ⟨a, rfl, Nat.le_refl _, by omega, h1, by omega, h3⟩
    | none =>
      rw [hc] at h
      obtain ⟨s, h1, h2, h3, h4⟩ := cOut_some (m := m) h
      exact ⟨s, h1, by omega, by omega, h4⟩
/-- there is a plan just if no two days contradict each other -/
theorem clash_cases {k : K} (h : chk k = 0) : (clashR k = (0, 0, 5) ∧ ∃ plan, Good k plan) ∨
    (∃ (s j : Nat), clashR k = ((s : Int) - 1, (j : Int), 0) ∧ s ≤ k.sales.length ∧ s ≤ j + 1 ∧ j < k.sales.length ∧ badPair k s j ∧ ∀ plan, ¬ Good k plan) := by
  have hv := Vk.of h
  cases hc : cOut k k.sales.length 0 (k.sales.length + 1) with
  | none =>
    refine .inl ⟨clash_none h hc, gPlan k, good_of_noclash hv fun a j h1 h2 => cOut_none.1 hc a (Nat.zero_le _) (by omega) j (by omega) h2⟩
  | some p =>
    obtain ⟨i, j⟩ := p
    obtain ⟨s, rfl, _, h2, h3, h4, h5⟩ := cOut_some hc
    exact .inr ⟨s, j, clash_some h hc, by omega, by omega, h4, h5, fun plan hg => noclash_of_good hg (by omega) h4 h5⟩
theorem best_iff {k : K} (h : chk k = 0) : ((bestR k).2.2 = 0 ∧ Good k (bestR k).1 ∧ (bestR k).2.1 = pc k (bestR k).1 k.sales.length ∧ ∀ plan, Good k plan → (bestR k).2.1 ≤ pc k plan k.sales.length ∧ (pc k plan k.sales.length = (bestR k).2.1 → before plan (bestR k).1 = false)) ∨
    (bestR k = ([], 0, 13) ∧ ∀ plan, ¬ Good k plan) := by
  by_cases h2 : lrow k (mK k) k.sales.length 0 < never
  · obtain ⟨b1, b2, b3⟩ := best_some h h2
    rw [best_go h h2]
    exact .inl ⟨rfl, b1, b2.symm, b3⟩
  · exact .inr ⟨best_no h (by omega), fun plan => best_none h (by omega) plan⟩

/-! ### Levels -/
def sl (sales : List Int) : Nat → Int
  | 0 => 0
  | d + 1 => sl sales d + sales.getD d 0
def lv (k : K) (plan : List Int) (start : Int) (sales : List Int) (d : Nat) : Int := start + pl plan d * k.load - sl sales d
theorem lv_succ (k : K) (plan : List Int) (start : Int) (sales : List Int) (d : Nat) : lv k plan start sales (d + 1) = lv k plan start sales d + plan.getD d 0 * k.load - sales.getD d 0 := by
  simp only [lv, pl, sl, Int.add_mul]; omega
/-- a truth -/
structure Truth (k : K) (start : Int) (sales : List Int) : Prop where
  len : sales.length = k.sales.length
  lo : k.slo ≤ start
  hi : start ≤ k.shi
  day : ∀ d, d < k.sales.length → saleOk k sales d
theorem sl_in {k : K} {start : Int} {sales : List Int} (ht : Truth k start sales) : ∀ d, d ≤ k.sales.length → start - sl sales d ≤ k.cap - lf k d ∧ -(lk k d) ≤ start - sl sales d
  | 0, _ => by have h1 := ht.lo; have h2 := ht.hi; simp only [sl, lf, lk]; omega
  | d + 1, h => by
    have ih := sl_in ht d (by omega)
    have h1 := ht.day d (by omega)
    unfold saleOk at h1
    simp only [sl, lf, lk]
    omega
theorem lv_full {k : K} (hv : Vk k) {plan : List Int} {start : Int} {sales : List Int} (ht : Truth k start sales) {d : Nat} (hd : d < k.sales.length) (h : pl plan (d + 1) ≤ rm k d) : lv k plan start sales d + plan.getD d 0 * k.load ≤ k.cap := by
  have h1 := (sl_in ht d (by omega)).1
  have h2 := (rm_iff hv).1 h
  simp only [pl, Int.add_mul] at h2
  simp only [lv]
  omega
theorem lv_dry {k : K} (hv : Vk k) {plan : List Int} {start : Int} {sales : List Int} (ht : Truth k start sales) {d : Nat} (hd : d < k.sales.length) (h0 : 0 ≤ pl plan (d + 1)) (h : nd k d ≤ pl plan (d + 1)) : 0 ≤ lv k plan start sales (d + 1) := by
  have h1 := (sl_in ht (d + 1) (by omega)).2
  have h2 := (nd_iff hv h0).1 h
  simp only [lv]
  omega
theorem pl_nonneg {k : K} {plan : List Int} (h : ∀ d, d < k.sales.length → 0 ≤ plan.getD d 0 ∧ plan.getD d 0 ≤ k.most) : ∀ d, d ≤ k.sales.length → 0 ≤ pl plan d
  | 0, _ => Int.le_refl _
  | d + 1, hd => by have := pl_nonneg h d (by omega); have := h d (by omega); simp only [pl]; omega
def lvs (k : K) (plan : List Int) (start : Int) (sales : List Int) (n : Nat) : List Int := (List.range n).map fun j => lv k plan start sales (j + 1)
theorem lvs_succ (k : K) (plan : List Int) (start : Int) (sales : List Int) (n : Nat) : lvs k plan start sales (n + 1) = lvs k plan start sales n ++ [lv k plan start sales (n + 1)] := by simp [lvs, List.range_succ]
theorem folg_fits {k : K} {plan : List Int} {start : Int} {sales : List Int} : ∀ (m d : Nat), (∀ j, d ≤ j → j < d + m → lv k plan start sales j + plan.getD j 0 * k.load ≤ k.cap ∧ 0 ≤ lv k plan start sales (j + 1)) →
    folg k plan sales d m (lv k plan start sales d) (lvs k plan start sales d) = (lvs k plan start sales (d + m), 0)
  | 0, d, _ => rfl
  | m + 1, d, h => by
    have h0 := h d (Nat.le_refl _) (by omega)
    have e := lv_succ k plan start sales d
    unfold folg
    rw [if_neg (by omega), if_neg (by omega), ← e, ← lvs_succ, folg_fits m (d + 1) fun j h1 h2 => h j (by omega) (by omega), show d + 1 + m = d + (m + 1) by omega]
theorem folg_stops {k : K} {plan : List Int} {start : Int} {sales : List Int} {i : Nat} : ∀ (m d : Nat) (acc : List Int), d ≤ i → i < d + m → (∀ j, d ≤ j → j < i → lv k plan start sales j + plan.getD j 0 * k.load ≤ k.cap ∧ 0 ≤ lv k plan start sales (j + 1)) →
    (k.cap < lv k plan start sales i + plan.getD i 0 * k.load → folg k plan sales d m (lv k plan start sales d) acc = ([], 10)) ∧
    (lv k plan start sales i + plan.getD i 0 * k.load ≤ k.cap → lv k plan start sales (i + 1) < 0 → folg k plan sales d m (lv k plan start sales d) acc = ([], 20))
  | 0, d, acc, h1, h2, _ => by omega
  | m + 1, d, acc, h1, h2, h => by
    have e := lv_succ k plan start sales d
    by_cases hi : d = i
    · subst hi
      constructor
      · intro h3
        unfold folg
        rw [if_pos (by omega)]
      · intro h3 h4
        unfold folg
        rw [if_neg (by omega), if_pos (by omega)]
    · have h0 := h d (Nat.le_refl _) (by omega)
      obtain ⟨g1, g2⟩ := folg_stops (k := k) (plan := plan) (start := start) (sales := sales) (i := i) m (d + 1) (acc ++ [lv k plan start sales (d + 1)]) (by omega) (by omega) fun j h1 h2 => h j (by omega) h2
      constructor
      · intro h3
        unfold folg
        rw [if_neg (by omega), if_neg (by omega), ← e]
        exact g1 h3
      · intro h3 h4
        unfold folg
        rw [if_neg (by omega), if_neg (by omega), ← e]
        exact g2 h3 h4
theorem lv_zero (k : K) (plan : List Int) (start : Int) (sales : List Int) : lv k plan start sales 0 = start := by simp [lv, pl, sl]
theorem fol_truth {k : K} {plan : List Int} {start : Int} {sales : List Int} (h : chk k = 0) (hl : plan.length = k.sales.length) (hd : ∀ d, d < k.sales.length → 0 ≤ plan.getD d 0 ∧ plan.getD d 0 ≤ k.most) (ht : Truth k start sales) :
    fol k plan start sales = folg k plan sales 0 k.sales.length (lv k plan start sales 0) [] := by
  rw [fol_go h hl ht.len ⟨ht.lo, ht.hi⟩ ((any_false_getD _ plan 0).2 fun j hj => by have := hd j (hl ▸ hj); simp only [decide_eq_false_iff_not]; omega) (fun ⟨d, h1, h2⟩ => h2 (ht.day d h1)), Nat.sub_zero, lv_zero]
/-- a good plan fits each truth -/
theorem good_follows {k : K} {plan : List Int} {start : Int} {sales : List Int} (h : chk k = 0) (hg : Good k plan) (ht : Truth k start sales) : fol k plan start sales = (lvs k plan start sales k.sales.length, 0) ∧
    ∀ d, d < k.sales.length → lv k plan start sales d + plan.getD d 0 * k.load ≤ k.cap ∧ 0 ≤ lv k plan start sales (d + 1) := by
  have hv := Vk.of h
  have hday : ∀ d, d < k.sales.length → lv k plan start sales d + plan.getD d 0 * k.load ≤ k.cap ∧ 0 ≤ lv k plan start sales (d + 1) := fun d hd =>
    ⟨lv_full hv ht hd (hg.fit d hd).2, lv_dry hv ht hd (pl_nonneg hg.day _ (by omega)) (hg.fit d hd).1⟩
  refine ⟨?_, hday⟩
  rw [fol_truth h hg.len hg.day ht]
  have := folg_fits (k := k) (plan := plan) (start := start) (sales := sales) k.sales.length 0 fun j _ hj => hday j (by omega)
  rw [Nat.zero_add] at this
  exact this
def leastS (k : K) : List Int := k.sales.map (·.1)
def mostS (k : K) : List Int := k.sales.map (·.2)
theorem leastS_get {k : K} {d : Nat} (h : d < k.sales.length) : (leastS k).getD d 0 = (k.sales.getD d (0, 0)).1 := by simp [leastS, List.getD, h]
theorem mostS_get {k : K} {d : Nat} (h : d < k.sales.length) : (mostS k).getD d 0 = (k.sales.getD d (0, 0)).2 := by simp [mostS, List.getD, h]
theorem truth_least {k : K} (hv : Vk k) : Truth k k.shi (leastS k) := ⟨by simp [leastS], hv.start, Int.le_refl _, fun d hd => by have := hv.sale d hd; unfold saleOk; rw [leastS_get hd]; omega⟩
theorem truth_most {k : K} (hv : Vk k) : Truth k k.slo (mostS k) := ⟨by simp [mostS], Int.le_refl _, hv.start, fun d hd => by have := hv.sale d hd; unfold saleOk; rw [mostS_get hd]; omega⟩
theorem sl_least {k : K} : ∀ d, d ≤ k.sales.length → k.shi - sl (leastS k) d = k.cap - lf k d
  | 0, _ => by simp only [sl, lf]; omega
  | d + 1, h => by have := sl_least (k := k) d (by omega); simp only [sl, lf, leastS_get (show d < k.sales.length by omega)]; omega
theorem sl_most {k : K} : ∀ d, d ≤ k.sales.length → k.slo - sl (mostS k) d = -(lk k d)
  | 0, _ => by simp only [sl, lk]; omega
  | d + 1, h => by have := sl_most (k := k) d (by omega); simp only [sl, lk, mostS_get (show d < k.sales.length by omega)]; omega
/-- one that is not does not fit one of two truths -/
theorem bad_stops {k : K} {plan : List Int} : ((cpv k plan).2 = 10 → chk k = 0 → (fol k plan k.shi (leastS k)).2 = 10) ∧ ((cpv k plan).2 = 20 → chk k = 0 → (fol k plan k.slo (mostS k)).2 = 20) := by
  have main : ∀ e : Int, (e = 10 ∨ e = 20) → (cpv k plan).2 = e → chk k = 0 → plan.length = k.sales.length ∧ (∀ d, d < k.sales.length → 0 ≤ plan.getD d 0 ∧ plan.getD d 0 ≤ k.most) ∧ cpv k plan = cpg k plan 0 k.sales.length := by
    intro e he h hc
    unfold cpv at h ⊢
    rw [if_neg (by omega)] at h ⊢
    split at h
    · simp at h; omega
    · rename_i hl
      rw [if_neg hl]
      split at h
      · simp at h; omega
      · rename_i ho
        rw [if_neg ho]
        have hl : plan.length = k.sales.length := by omega
        have ho : offPlan k plan = false := by simpa using ho
        exact ⟨hl, fun d hd => on_plan ho (hl ▸ hd), rfl⟩
  have hbad : ∀ e : Int, (e = 10 ∨ e = 20) → (cpg k plan 0 k.sales.length).2 = e → ∃ j, j < k.sales.length ∧ ¬ (nd k j ≤ pl plan (j + 1) ∧ pl plan (j + 1) ≤ rm k j) := by
    intro e he h
    apply Classical.byContradiction
    intro hn
    have : ∀ j, 0 ≤ j → j < 0 + k.sales.length → nd k j ≤ pl plan (j + 1) ∧ pl plan (j + 1) ≤ rm k j := fun j _ hj => Classical.byContradiction fun hx => hn ⟨j, by omega, hx⟩
    rw [cpg_ok this] at h
    simp at h; omega
  have run : ∀ (start : Int) (sales : List Int) (i : Nat), chk k = 0 → plan.length = k.sales.length → (∀ d, d < k.sales.length → 0 ≤ plan.getD d 0 ∧ plan.getD d 0 ≤ k.most) → Truth k start sales → i < k.sales.length →
      (∀ t, t < i → nd k t ≤ pl plan (t + 1) ∧ pl plan (t + 1) ≤ rm k t) → _ := fun start sales i hc hl hd ht hi hb =>
    folg_stops (k := k) (plan := plan) (start := start) (sales := sales) (i := i) k.sales.length 0 [] (Nat.zero_le _) (by omega) fun j _ hj =>
      ⟨lv_full (Vk.of hc) ht (by omega) (hb j hj).2, lv_dry (Vk.of hc) ht (by omega) (pl_nonneg hd _ (by omega)) (hb j hj).1⟩
  constructor
  · intro h hc
    obtain ⟨hl, hd, he⟩ := main 10 (.inl rfl) h hc
    rw [he] at h
    obtain ⟨j, hj, hx⟩ := hbad 10 (.inl rfl) h
    obtain ⟨_, i, _, h2, h3, h4⟩ := cpg_bad (m := k.sales.length) (Nat.zero_le j) (by omega) hx
    rcases h4 with ⟨h4, _⟩ | ⟨_, _, h4⟩
    · rw [fol_truth hc hl hd (truth_least (Vk.of hc)), (run k.shi (leastS k) i hc hl hd (truth_least (Vk.of hc)) (by omega) fun t ht => h3 t (Nat.zero_le _) ht).1 ?_]
      have h5 : ¬ (pl plan (i + 1) * k.load ≤ lf k i) := fun h => by have := (rm_iff (Vk.of hc)).2 h; omega
      have h6 := sl_least (k := k) i (by omega)
      simp only [pl, Int.add_mul] at h5
      simp only [lv]
      omega
    · omega
  · intro h hc
    obtain ⟨hl, hd, he⟩ := main 20 (.inr rfl) h hc
    rw [he] at h
    obtain ⟨j, hj, hx⟩ := hbad 20 (.inr rfl) h
    obtain ⟨_, i, _, h2, h3, h4⟩ := cpg_bad (m := k.sales.length) (Nat.zero_le j) (by omega) hx
    rcases h4 with ⟨_, h4⟩ | ⟨h4, h4', _⟩
    · omega
    · rw [fol_truth hc hl hd (truth_most (Vk.of hc)), (run k.slo (mostS k) i hc hl hd (truth_most (Vk.of hc)) (by omega) fun t ht => h3 t (Nat.zero_le _) ht).2 (lv_full (Vk.of hc) (truth_most (Vk.of hc)) (by omega) h4') ?_]
      have h5 : ¬ (lk k (i + 1) ≤ pl plan (i + 1) * k.load) := fun h => by have := (nd_iff (Vk.of hc) (pl_nonneg hd _ (by omega))).2 h; omega
      have h6 := sl_most (k := k) (i + 1) (by omega)
      simp only [lv]
      omega
end Go.Ax
