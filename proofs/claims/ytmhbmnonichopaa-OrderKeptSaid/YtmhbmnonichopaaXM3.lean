/-
  Plain: values that prove a best plan.
-/
import Derived.Test.YtmhbmnonichopaaXM2
namespace Go.Ax
set_option linter.unusedSimpArgs false
set_option linter.unusedVariables false

/-- what values of a best plan keep: in the document's words, no more than they may be -/
structure Keeps (k : K) (plan : List Int) (v : Nat → Int) : Prop where
  cost : ∀ d, d < k.sales.length → plan.getD d 0 < k.most → v d ≤ k.costs.getD d 0
  need : ∀ d, d + 1 < k.sales.length → nd k d < pl plan (d + 1) → v d ≤ v (d + 1)
  last : ∀ d, d + 1 = k.sales.length → nd k d < pl plan (d + 1) → v d ≤ 0
  room : ∀ d, d + 1 < k.sales.length → pl plan (d + 1) < rm k d → v (d + 1) ≤ v d

/-! ### One load goes to another day, or is left out -/
def ind (b : Bool) : Int := if b then 1 else 0
def moved1 (plan : List Int) (n e d : Nat) : List Int := (List.range n).map fun i => plan.getD i 0 + ind (decide (i = d)) - ind (decide (i = e))
theorem moved1_get {plan : List Int} {n e d i : Nat} (h : i < n) : (moved1 plan n e d).getD i 0 = plan.getD i 0 + ind (decide (i = d)) - ind (decide (i = e)) := by simp [moved1, List.getD, h]
theorem moved1_pl {plan : List Int} {n e d : Nat} : ∀ j, j ≤ n → pl (moved1 plan n e d) j = pl plan j + ind (decide (d < j)) - ind (decide (e < j))
  | 0, _ => by simp [pl, ind]
  | j + 1, h => by
    rw [pl, moved1_pl j (by omega), moved1_get (by omega), pl]
    have h1 : ∀ a : Nat, ind (decide (a < j + 1)) = ind (decide (a < j)) + ind (decide (j = a)) := fun a => by
      unfold ind
      simp only [decide_eq_true_eq]
      split <;> split <;> split <;> omega
    rw [h1 d, h1 e]
    omega
theorem moved1_pc {k : K} {plan : List Int} {n e d : Nat} : ∀ j, j ≤ n → pc k (moved1 plan n e d) j = pc k plan j + ind (decide (d < j)) * k.costs.getD d 0 - ind (decide (e < j)) * k.costs.getD e 0
  | 0, _ => by simp [pc, ind]
  | j + 1, h => by
    rw [pc, moved1_pc j (by omega), moved1_get (by omega), pc]
    have h1 : ∀ a : Nat, ind (decide (a < j + 1)) * k.costs.getD a 0 = ind (decide (a < j)) * k.costs.getD a 0 + ind (decide (j = a)) * k.costs.getD j 0 := fun a => by
      unfold ind
      simp only [decide_eq_true_eq]
      by_cases e1 : j = a
      · subst e1; rw [if_pos (by omega), if_neg (by omega), if_pos rfl]; omega
      · rw [if_neg e1]
        by_cases e2 : a < j
        · rw [if_pos (by omega), if_pos e2]; omega
        · rw [if_neg (by omega), if_neg e2]; omega
    rw [h1 d, h1 e, Int.sub_mul, Int.add_mul]
    omega
theorem moved1_good {k : K} {plan : List Int} (hg : Good k plan) {e d : Nat} (he : e < k.sales.length) (hxe : 0 < plan.getD e 0) (hde : d ≠ e) (hxd : d < k.sales.length → plan.getD d 0 < k.most)
    (hf : ∀ j, e ≤ j → j < d → j < k.sales.length → nd k j < pl plan (j + 1)) (hb : ∀ j, d ≤ j → j < e → pl plan (j + 1) < rm k j) : Good k (moved1 plan k.sales.length e d) := by
  refine ⟨by simp [moved1], fun i hi => ?_, fun i hi => ?_⟩
  · rw [moved1_get hi]
    have := hg.day i hi
    unfold ind
    simp only [decide_eq_true_eq]
    by_cases h1 : i = d
    · have := hxd (h1 ▸ hi)
      rw [if_pos h1, if_neg (by omega)]
      subst h1
      omega
    · rw [if_neg h1]
      by_cases h2 : i = e
      · rw [if_pos h2]; subst h2; omega
      · rw [if_neg h2]; omega
  · rw [moved1_pl _ (by omega)]
    have := hg.fit i hi
    unfold ind
    simp only [decide_eq_true_eq]
    by_cases h1 : d < i + 1
    · rw [if_pos h1]
      by_cases h2 : e < i + 1
      · rw [if_pos h2]; omega
      · rw [if_neg h2]
        have := hb i (by omega) (by omega)
        omega
    · rw [if_neg h1]
      by_cases h2 : e < i + 1
      · rw [if_pos h2]
        have := hf i (by omega) (by omega) hi
        omega
      · rw [if_neg h2]; omega

/-! ### The least values that a best plan needs -/
def Best (k : K) (plan : List Int) : Prop := Good k plan ∧ ∀ q, Good k q → pc k plan k.sales.length ≤ pc k q k.sales.length
/-- does what is paid on the day e bear on the day d? -/
def bears (k : K) (plan : List Int) (e d : Nat) : Prop := 0 < plan.getD e 0 ∧ ((e ≤ d ∧ ∀ j, e ≤ j → j < d → nd k j < pl plan (j + 1)) ∨ (d ≤ e ∧ ∀ j, d ≤ j → j < e → pl plan (j + 1) < rm k j))
open Classical in
noncomputable def wv (k : K) (plan : List Int) (d : Nat) : Nat → Int
  | 0 => 0
  | e + 1 => if bears k plan e d then max (wv k plan d e) (k.costs.getD e 0) else wv k plan d e
theorem wv_ge {k : K} {plan : List Int} {d : Nat} : ∀ {n e : Nat}, e < n → bears k plan e d → k.costs.getD e 0 ≤ wv k plan d n
  | 0, e, h, _ => absurd h (Nat.not_lt_zero _)
  | n + 1, e, h, hb => by
    simp only [wv]
    rcases Nat.lt_succ_iff_lt_or_eq.1 h with h | rfl
    · have := wv_ge h hb
      split <;> omega
    · rw [if_pos hb]; omega
theorem wv_nonneg {k : K} {plan : List Int} {d : Nat} : ∀ n, 0 ≤ wv k plan d n
  | 0 => Int.le_refl _
  | n + 1 => by
    have := @wv_nonneg k plan d n
    simp only [wv]
    split <;> omega
theorem wv_get {k : K} {plan : List Int} {d : Nat} : ∀ {n : Nat}, wv k plan d n = 0 ∨ ∃ e, e < n ∧ bears k plan e d ∧ wv k plan d n = k.costs.getD e 0
  | 0 => .inl rfl
  | n + 1 => by
    simp only [wv]
    split
    · rename_i hb
      by_cases h : wv k plan d n ≤ k.costs.getD n 0
      · exact .inr ⟨n, by omega, hb, by omega⟩
      · rcases @wv_get k plan d n with h1 | ⟨e, h1, h2, h3⟩
        · exact .inl (by omega)
        · exact .inr ⟨e, by omega, h2, by omega⟩
    · rcases @wv_get k plan d n with h1 | ⟨e, h1, h2, h3⟩
      · exact .inl h1
      · exact .inr ⟨e, by omega, h2, h3⟩
theorem wv_le {k : K} {plan : List Int} {d d' n : Nat} (h : ∀ e, e < n → bears k plan e d → bears k plan e d') : wv k plan d n ≤ wv k plan d' n := by
  rcases @wv_get k plan d n with h1 | ⟨e, h1, h2, h3⟩
  · rw [h1]; exact wv_nonneg n
  · rw [h3]; exact wv_ge h1 (h e h1 h2)
theorem wv_keeps {k : K} (hv : Vk k) {plan : List Int} (hb : Best k plan) : Keeps k plan (fun d => wv k plan d k.sales.length) := by
  obtain ⟨hg, hmin⟩ := hb
  refine ⟨fun d hd hx => ?_, fun d hd hs => ?_, fun d hd hs => ?_, fun d hd hs => ?_⟩
  · rcases @wv_get k plan d k.sales.length with h1 | ⟨e, h1, ⟨h2, h4⟩, h3⟩
    · show wv k plan d k.sales.length ≤ _; rw [h1]; exact (hv.cost d hd).1
    · show wv k plan d k.sales.length ≤ _
      rw [h3]
      by_cases hde : d = e
      · subst hde; exact Int.le_refl _
      · have hg' : Good k (moved1 plan k.sales.length e d) := by
          refine moved1_good hg h1 h2 hde (fun _ => hx) ?_ ?_
          · rcases h4 with ⟨h4, h5⟩ | ⟨h4, h5⟩
            · exact fun j j1 j2 _ => h5 j j1 j2
            · exact fun j j1 j2 _ => by omega
          · rcases h4 with ⟨h4, h5⟩ | ⟨h4, h5⟩
            · exact fun j j1 j2 => by omega
            · exact fun j j1 j2 => h5 j j1 j2
        have := hmin _ hg'
        rw [moved1_pc _ (Nat.le_refl _)] at this
        unfold ind at this
        simp only [decide_eq_true_eq] at this
        rw [if_pos hd, if_pos h1] at this
        omega
  · refine wv_le fun e he ⟨h1, h2⟩ => ⟨h1, ?_⟩
    rcases h2 with ⟨h2, h3⟩ | ⟨h2, h3⟩
    · refine .inl ⟨by omega, fun j j1 j2 => ?_⟩
      by_cases hj : j = d
      · subst hj; exact hs
      · exact h3 j j1 (by omega)
    · by_cases hde : e = d
      · subst hde
        refine .inl ⟨by omega, fun j j1 j2 => ?_⟩
        have : j = e := by omega
        subst this; exact hs
      · exact .inr ⟨by omega, fun j j1 j2 => h3 j (by omega) j2⟩
  · show wv k plan d k.sales.length ≤ _
    rcases @wv_get k plan d k.sales.length with h1 | ⟨e, h1, ⟨h2, h4⟩, h3⟩
    · rw [h1]; exact Int.le_refl _
    · rw [h3]
      have hg' : Good k (moved1 plan k.sales.length e k.sales.length) := by
        refine moved1_good hg h1 h2 (by omega) (fun h => absurd h (Nat.lt_irrefl _)) ?_ fun j j1 j2 => by omega
        rcases h4 with ⟨h4, h5⟩ | ⟨h4, h5⟩
        · intro j j1 j2 j3
          by_cases hj : j = d
          · subst hj; exact hs
          · exact h5 j j1 (by omega)
        · intro j j1 j2 j3
          have : j = d := by omega
          subst this; exact hs
      have := hmin _ hg'
      rw [moved1_pc _ (Nat.le_refl _)] at this
      unfold ind at this
      simp only [decide_eq_true_eq] at this
      rw [if_neg (Nat.lt_irrefl _), if_pos h1] at this
      omega
  · refine wv_le fun e he ⟨h1, h2⟩ => ⟨h1, ?_⟩
    rcases h2 with ⟨h2, h3⟩ | ⟨h2, h3⟩
    · by_cases hde : e = d + 1
      · subst hde
        refine .inr ⟨by omega, fun j j1 j2 => ?_⟩
        have : j = d := by omega
        subst this; exact hs
      · exact .inl ⟨by omega, fun j j1 j2 => h3 j j1 (by omega)⟩
    · refine .inr ⟨by omega, fun j j1 j2 => ?_⟩
      by_cases hj : j = d
      · subst hj; exact hs
      · exact h3 j (by omega) j2
theorem wv_pays {k : K} {plan : List Int} {d : Nat} (hd : d < k.sales.length) (hx : 0 < plan.getD d 0) : k.costs.getD d 0 ≤ wv k plan d k.sales.length :=
  wv_ge hd ⟨hx, .inl ⟨Nat.le_refl _, fun j j1 j2 => by omega⟩⟩
/-- values that keep what they must, and are not below the least ones, have what the plan costs as their bound -/
theorem bnd_eq {k : K} (hv : Vk k) {plan vs : List Int} (hg : Good k plan) (h0 : ∀ d, d < k.sales.length → 0 ≤ vs.getD d 0) (hk : Keeps k plan (fun d => vs.getD d 0)) (hp : ∀ d, d < k.sales.length → 0 < plan.getD d 0 → k.costs.getD d 0 ≤ vs.getD d 0) :
    bnd k vs k.sales.length = pc k plan k.sales.length := by
  have term : ∀ d, d < k.sales.length → bterm k vs d = pl plan (d + 1) * (vs.getD d 0 - nxtV vs k.sales.length d) + plan.getD d 0 * k.costs.getD d 0 - plan.getD d 0 * vs.getD d 0 := by
    intro d hd
    obtain ⟨f1, f2⟩ := hg.fit d hd
    obtain ⟨x1, x2⟩ := hg.day d hd
    have c1 := hk.cost d hd
    have c2 : nd k d < pl plan (d + 1) → vs.getD d 0 ≤ nxtV vs k.sales.length d := by
      intro h
      unfold nxtV
      by_cases hl : d + 1 < k.sales.length
      · rw [if_pos hl]; exact hk.need d hl h
      · rw [if_neg hl]; exact hk.last d (by omega) h
    have c3 : pl plan (d + 1) < rm k d → nxtV vs k.sales.length d ≤ vs.getD d 0 := by
      intro h
      unfold nxtV
      by_cases hl : d + 1 < k.sales.length
      · rw [if_pos hl]; exact hk.room d hl h
      · rw [if_neg hl]; exact h0 d hd
    have c4 := hp d hd
    unfold bterm
    generalize vs.getD d 0 = v at *
    generalize nxtV vs k.sales.length d = w at *
    generalize plan.getD d 0 = x at *
    generalize pl plan (d + 1) = s at *
    generalize k.costs.getD d 0 = c at *
    have h1 : nd k d * max 0 (v - w) - rm k d * max 0 (w - v) = s * (v - w) := by
      rcases Int.lt_trichotomy v w with h | h | h
      · rw [show max 0 (v - w) = 0 by omega, show max 0 (w - v) = w - v by omega]
        have : s = rm k d := by omega
        rw [this, ← Int.neg_sub w v, Int.mul_neg]; omega
      · subst h
        rw [Int.sub_self]; simp
      · rw [show max 0 (v - w) = v - w by omega, show max 0 (w - v) = 0 by omega]
        have : s = nd k d := by omega
        rw [this]; omega
    have h2 : x * v - x * c = k.most * max 0 (v - c) := by
      rw [← Int.mul_sub]
      rcases Int.lt_trichotomy c v with h | h | h
      · rw [show max 0 (v - c) = v - c by omega]
        have : x = k.most := by omega
        rw [this]
      · subst h; rw [Int.sub_self]; simp
      · have : x = 0 := by omega
        rw [this, show max 0 (v - c) = 0 by omega]; simp
    omega
  have main : ∀ d, d ≤ k.sales.length → bnd k vs d = pc k plan d - pl plan d * (if d < k.sales.length then vs.getD d 0 else 0) := by
    intro d
    induction d with
    | zero => intro _; simp [bnd, pc, pl]
    | succ d ih =>
      intro hd
      have ih := ih (by omega)
      rw [if_pos (by omega)] at ih
      have ht := term d (by omega)
      simp only [bnd, pc]
      have e : nxtV vs k.sales.length d = if d + 1 < k.sales.length then vs.getD (d + 1) 0 else 0 := rfl
      rw [← e]
      have e2 : pl plan (d + 1) = pl plan d + plan.getD d 0 := rfl
      rw [Int.mul_sub, e2, Int.add_mul, Int.add_mul] at ht
      rw [e2, Int.add_mul]
      omega
  have := main k.sales.length (Nat.le_refl _)
  rw [if_neg (by omega)] at this
  omega
theorem best_is {k : K} (h : chk k = 0) (h0 : (bestR k).2.2 = 0) : Best k (bestR k).1 ∧ (bestR k).2.1 = pc k (bestR k).1 k.sales.length := by
  rcases best_iff h with ⟨_, g2, g3, g4⟩ | ⟨g1, _⟩
  · exact ⟨⟨g2, fun q hq => by rw [← g3]; exact (g4 q hq).1⟩, g3⟩
  · rw [g1] at h0; cases h0
end Go.Ax
