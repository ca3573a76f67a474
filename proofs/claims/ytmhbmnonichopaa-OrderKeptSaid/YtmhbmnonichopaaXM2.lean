/-
  Plain: kinds that are narrower, dearer, later; the bound of values.
-/
import Derived.Test.YtmhbmnonichopaaXM1
namespace Go.Ax
set_option linter.unusedSimpArgs false
set_option linter.unusedVariables false

/-! ### Easier kinds -/
structure Easier (k k' : K) : Prop where
  load : k'.load = k.load
  n : k'.sales.length = k.sales.length
  costs : k'.costs = k.costs
  most : k.most ≤ k'.most
  lk : ∀ d, d ≤ k.sales.length → lk k' d ≤ lk k d
  lf : ∀ d, d ≤ k.sales.length → lf k d ≤ lf k' d
theorem Easier.good {k k' : K} (h : Easier k k') (hv : Vk k) (hv' : Vk k') {plan : List Int} (hg : Good k plan) : Good k' plan := by
  refine ⟨hg.len.trans h.n.symm, fun d hd => ?_, fun d hd => ?_⟩
  · have := hg.day d (h.n ▸ hd); have := h.most; omega
  · have hd : d < k.sales.length := h.n ▸ hd
    have hp := pl_nonneg hg.day (d + 1) (by omega)
    obtain ⟨h1, h2⟩ := hg.fit d hd
    refine ⟨(nd_iff hv' hp).2 ?_, (rm_iff hv').2 ?_⟩
    · have := (nd_iff hv hp).1 h1
      have := h.lk (d + 1) (by omega)
      rw [h.load]; omega
    · have := (rm_iff hv).1 h2
      have := h.lf d (by omega)
      rw [h.load]; omega
theorem pc_costs {k k' : K} (h : k'.costs = k.costs) (plan : List Int) : ∀ d, pc k' plan d = pc k plan d
  | 0 => rfl
  | d + 1 => by simp only [pc]; rw [pc_costs h plan d, h]
theorem Easier.best {k k' : K} (h : Easier k k') (hc : chk k = 0) (hc' : chk k' = 0) : ((bestR k').2.2 = 0 ∨ (bestR k').2.2 = 13) ∧ ((bestR k).2.2 = 0 → (bestR k').2.2 = 0 ∧ (bestR k').2.1 ≤ (bestR k).2.1) := by
  have hv := Vk.of hc
  have hv' := Vk.of hc'
  rcases best_iff hc' with ⟨h1, h2, h3, h4⟩ | ⟨h1, h2⟩
  · refine ⟨.inl h1, fun h0 => ⟨h1, ?_⟩⟩
    rcases best_iff hc with ⟨g1, g2, g3, g4⟩ | ⟨g1, g2⟩
    · have := (h4 _ (h.good hv hv' g2)).1
      rw [pc_costs h.costs, h.n] at this
      omega
    · rw [g1] at h0; cases h0
  · refine ⟨.inr (by rw [h1]), fun h0 => ?_⟩
    rcases best_iff hc with ⟨g1, g2, g3, g4⟩ | ⟨g1, g2⟩
    · exact absurd (h.good hv hv' g2) (h2 _)
    · rw [g1] at h0; cases h0
theorem Easier.plan {k k' : K} (h : Easier k k') (hc' : chk k' = 0) {plan : List Int} (h0 : (cpv k plan).2 = 0) : cpv k' plan = cpv k plan := by
  obtain ⟨hc, hg, h1⟩ := cpv_zero h0
  rw [cpv_good hc' (h.good (Vk.of hc) (Vk.of hc') hg), cpv_good hc hg, h.n, pc_costs h.costs]

/-! ### Dearer kinds -/
theorem before_irrefl : ∀ a : List Int, before a a = false
  | [] => rfl
  | x :: a => by simp [before, before_irrefl a]
theorem before_anti : ∀ {a b : List Int}, before a b = false → before b a = false → a = b
  | [], [], _, _ => rfl
  | [], _ :: _, h, _ => by simp [before] at h
  | _ :: _, [], _, h => by simp [before] at h
  | x :: a, y :: b, h1, h2 => by
    simp only [before] at h1 h2
    by_cases e : x = y
    · subst e
      rw [if_pos rfl] at h1 h2
      rw [before_anti h1 h2]
    · rw [if_neg e] at h1
      rw [if_neg (fun e' => e e'.symm)] at h2
      simp at h1 h2
      omega
/-- the same but for the costs -/
structure SameBut (k k' : K) : Prop where
  cap : k'.cap = k.cap
  load : k'.load = k.load
  most : k'.most = k.most
  slo : k'.slo = k.slo
  shi : k'.shi = k.shi
  sales : k'.sales = k.sales
theorem SameBut.lk {k k' : K} (h : SameBut k k') : ∀ d, lk k' d = lk k d
  | 0 => by simp only [Go.Ax.lk, h.slo]
  | d + 1 => by simp only [Go.Ax.lk]; rw [SameBut.lk h d, h.sales]
theorem SameBut.lf {k k' : K} (h : SameBut k k') : ∀ d, lf k' d = lf k d
  | 0 => by simp only [Go.Ax.lf, h.cap, h.shi]
  | d + 1 => by simp only [Go.Ax.lf]; rw [SameBut.lf h d, h.sales]
theorem SameBut.good {k k' : K} (h : SameBut k k') {plan : List Int} : Good k' plan ↔ Good k plan := by
  have h1 : ∀ d, nd k' d = nd k d := fun d => by unfold nd; rw [h.lk, h.load]
  have h2 : ∀ d, rm k' d = rm k d := fun d => by unfold rm; rw [h.lf, h.load]
  constructor
  · rintro ⟨a, b, c⟩
    refine ⟨by rw [a, h.sales], fun d hd => by have := b d (h.sales ▸ hd); rw [h.most] at this; exact this, fun d hd => by have := c d (h.sales ▸ hd); rw [h1, h2] at this; exact this⟩
  · rintro ⟨a, b, c⟩
    refine ⟨by rw [a, h.sales], fun d hd => by rw [h.most]; exact b d (h.sales ▸ hd), fun d hd => by rw [h1, h2]; exact c d (h.sales ▸ hd)⟩
theorem SameBut.err {k k' : K} (h : SameBut k k') (hc : chk k = 0) (hc' : chk k' = 0) (h0 : (bestR k).2.2 = 0) : (bestR k').2.2 = 0 ∧ Good k (bestR k').1 ∧ (bestR k').2.1 = pc k' (bestR k').1 k.sales.length ∧ Good k (bestR k).1 ∧ (bestR k).2.1 = pc k (bestR k).1 k.sales.length ∧
    (∀ plan, Good k plan → (bestR k').2.1 ≤ pc k' plan k.sales.length ∧ (pc k' plan k.sales.length = (bestR k').2.1 → before plan (bestR k').1 = false)) ∧
    (∀ plan, Good k plan → (bestR k).2.1 ≤ pc k plan k.sales.length ∧ (pc k plan k.sales.length = (bestR k).2.1 → before plan (bestR k).1 = false)) := by
  rcases best_iff hc with ⟨g1, g2, g3, g4⟩ | ⟨g1, g2⟩
  · rcases best_iff hc' with ⟨h1, h2, h3, h4⟩ | ⟨h1, h2⟩
    · refine ⟨h1, h.good.1 h2, by rw [h3, h.sales], g2, g3, fun plan hp => ?_, g4⟩
      have := h4 plan (h.good.2 hp)
      rw [h.sales] at this
      exact this
    · exact absurd (h.good.2 g2) (h2 _)
  · rw [g1] at h0; cases h0
theorem pc_times {k k' : K} {t : Int} {n : Nat} (hc : ∀ d, d < n → k'.costs.getD d 0 = t * k.costs.getD d 0) (plan : List Int) : ∀ d, d ≤ n → pc k' plan d = t * pc k plan d
  | 0, _ => by simp [pc]
  | d + 1, h => by
    simp only [pc]
    rw [pc_times hc plan d (by omega), hc d (by omega), Int.mul_add, ← Int.mul_assoc, Int.mul_comm (plan.getD d 0) t, Int.mul_assoc]
theorem pc_more {k k' : K} {m : Int} {n : Nat} (hc : ∀ d, d < n → k'.costs.getD d 0 = k.costs.getD d 0 + m) (plan : List Int) : ∀ d, d ≤ n → pc k' plan d = pc k plan d + m * pl plan d
  | 0, _ => by simp [pc, pl]
  | d + 1, h => by
    simp only [pc, pl]
    rw [pc_more hc plan d (by omega), hc d (by omega), Int.mul_add, Int.mul_add, Int.mul_comm m (plan.getD d 0)]
    omega
theorem pc_le {k k' : K} {n : Nat} (hc : ∀ d, d < n → k.costs.getD d 0 ≤ k'.costs.getD d 0) {plan : List Int} (hp : ∀ d, d < n → 0 ≤ plan.getD d 0) : ∀ d, d ≤ n → pc k plan d ≤ pc k' plan d
  | 0, _ => by simp [pc]
  | d + 1, h => by
    have := pc_le hc hp d (by omega)
    have := Int.mul_le_mul_of_nonneg_left (hc d (by omega)) (hp d (by omega))
    simp only [pc]
    omega
theorem best_times {k k' : K} {t : Int} (h : SameBut k k') (hc : chk k = 0) (hc' : chk k' = 0) (h0 : (bestR k).2.2 = 0) (ht : 1 ≤ t) (hcs : ∀ d, d < k.sales.length → k'.costs.getD d 0 = t * k.costs.getD d 0) :
    (bestR k').2.2 = 0 ∧ (bestR k').2.1 = t * (bestR k).2.1 ∧ (bestR k').1 = (bestR k).1 := by
  obtain ⟨a1, a2, a3, a4, a5, a6, a7⟩ := h.err hc hc' h0
  have e1 := pc_times hcs (bestR k').1 _ (Nat.le_refl _)
  have e2 := pc_times hcs (bestR k).1 _ (Nat.le_refl _)
  have b1 := a6 _ a4
  have b2 := a7 _ a2
  have c1 : t * (bestR k).2.1 ≤ t * pc k (bestR k').1 k.sales.length := Int.mul_le_mul_of_nonneg_left b2.1 (by omega)
  have hm : (bestR k').2.1 = t * (bestR k).2.1 := by have := b1.1; rw [e2, ← a5] at this; rw [a3, e1] at this ⊢; omega
  refine ⟨a1, hm, ?_⟩
  have c2 : pc k (bestR k').1 k.sales.length = (bestR k).2.1 := by
    rw [a3, e1] at hm
    exact Int.eq_of_mul_eq_mul_left (by omega) hm
  exact before_anti (b2.2 c2) (b1.2 (by rw [e2, ← a5, hm]))
theorem best_more {k k' : K} {m : Int} (h : SameBut k k') (hc : chk k = 0) (hc' : chk k' = 0) (h0 : (bestR k).2.2 = 0) (hcs : ∀ d, d < k.sales.length → k'.costs.getD d 0 = k.costs.getD d 0 + m) :
    (bestR k').2.2 = 0 ∧ (bestR k).2.1 + m * pl (bestR k').1 k.sales.length ≤ (bestR k').2.1 ∧ (bestR k').2.1 ≤ (bestR k).2.1 + m * pl (bestR k).1 k.sales.length := by
  obtain ⟨a1, a2, a3, a4, a5, a6, a7⟩ := h.err hc hc' h0
  have e1 := pc_more hcs (bestR k').1 _ (Nat.le_refl _)
  have e2 := pc_more hcs (bestR k).1 _ (Nat.le_refl _)
  have b1 := (a6 _ a4).1
  have b2 := (a7 _ a2).1
  exact ⟨a1, by omega, by omega⟩
theorem best_dearer {k k' : K} (h : SameBut k k') (hc : chk k = 0) (hc' : chk k' = 0) (h0 : (bestR k).2.2 = 0) (hcs : ∀ d, d < k.sales.length → k.costs.getD d 0 ≤ k'.costs.getD d 0) :
    (bestR k').2.2 = 0 ∧ (bestR k).2.1 ≤ (bestR k').2.1 := by
  obtain ⟨a1, a2, a3, a4, a5, a6, a7⟩ := h.err hc hc' h0
  have b2 := (a7 _ a2).1
  have := pc_le hcs (fun d hd => (a2.day d hd).1) k.sales.length (Nat.le_refl _)
  exact ⟨a1, by omega⟩

/-! ### Without the first day -/
def later (k : K) : K := { k with slo := k.slo - (k.sales.getD 0 (0, 0)).2, shi := k.shi - (k.sales.getD 0 (0, 0)).1, sales := k.sales.drop 1, costs := k.costs.drop 1 }
theorem getD_drop1 {α : Type} (l : List α) (d : Nat) (z : α) : (l.drop 1).getD d z = l.getD (d + 1) z := by cases l <;> simp
theorem later_lk (k : K) : ∀ d, lk (later k) d = lk k (d + 1)
  | 0 => by simp only [lk, later]; omega
  | d + 1 => by rw [lk, later_lk k d]; simp only [later, getD_drop1]; rfl
theorem later_lf (k : K) : ∀ d, lf (later k) d = lf k (d + 1)
  | 0 => by simp only [lf, later]; omega
  | d + 1 => by rw [lf, later_lf k d]; simp only [later, getD_drop1]; rfl
theorem pl_drop {plan : List Int} (h0 : plan.getD 0 0 = 0) : ∀ d, pl (plan.drop 1) d = pl plan (d + 1)
  | 0 => by simp only [pl, h0]; rfl
  | d + 1 => by rw [pl, pl_drop h0 d, getD_drop1]; rfl
theorem pc_drop {k : K} {plan : List Int} (h0 : plan.getD 0 0 = 0) : ∀ d, pc (later k) (plan.drop 1) d = pc k plan (d + 1)
  | 0 => by simp only [pc, h0]; simp
  | d + 1 => by rw [pc, pc_drop h0 d, getD_drop1]; simp only [later, getD_drop1]; rfl
theorem later_vk {k : K} (hv : Vk k) (h2 : 2 ≤ k.sales.length) (h0 : 0 ≤ k.slo - (k.sales.getD 0 (0, 0)).2) : chk (later k) = 0 := by
  have s0 := hv.sale 0 (by omega)
  have e1 : (later k).sales.length = k.sales.length - 1 := by simp [later]
  have e2 : (later k).costs.length = k.costs.length - 1 := by simp [later]
  have h := hv.n1; have h' := hv.n2; have h3 := hv.n3
  unfold chk
  rw [if_neg (by omega), if_neg (by omega)]
  have c1 := hv.cap1; have c2 := hv.cap2; have c3 := hv.load1; have c4 := hv.load2; have c5 := hv.most1; have c6 := hv.most2; have c7 := hv.start; have c8 := hv.shi
  have g1 : (later k).cap = k.cap := rfl
  have g2 : (later k).load = k.load := rfl
  have g3 : (later k).most = k.most := rfl
  have g4 : (later k).slo = k.slo - (k.sales.getD 0 (0, 0)).2 := rfl
  have g5 : (later k).shi = k.shi - (k.sales.getD 0 (0, 0)).1 := rfl
  rw [if_neg (by rw [g1, g2, g3, g4, g5]; omega), if_neg]
  rw [bad_any (by omega)]
  rintro ⟨d, hd, hb⟩
  have := hv.sale (d + 1) (by omega)
  have := hv.cost (d + 1) (by omega)
  unfold badDay at hb
  simp only [later, getD_drop1] at hb
  rcases hb with hb | hb | hb
  · rw [vr_false] at hb; omega
  · omega
  · omega
theorem later_nd (k : K) (d : Nat) : nd (later k) d = nd k (d + 1) := by unfold nd; rw [later_lk, show (later k).load = k.load from rfl]
theorem later_rm (k : K) (d : Nat) : rm (later k) d = rm k (d + 1) := by unfold rm; rw [later_lf, show (later k).load = k.load from rfl]
theorem later_good {k : K} {plan : List Int} (hv : Vk k) (h2 : 2 ≤ k.sales.length) (hl : plan.length = k.sales.length) (h0 : plan.getD 0 0 = 0) : Good k plan ↔ 0 ≤ k.slo - (k.sales.getD 0 (0, 0)).2 ∧ Good (later k) (plan.drop 1) := by
  have e1 : (later k).sales.length = k.sales.length - 1 := by simp [later]
  have hp1 : pl plan 1 = 0 := by simp only [pl, h0]; rfl
  have hnd := @nd_iff k hv 0 0 (Int.le_refl _)
  rw [Int.zero_mul] at hnd
  have hlk : lk k 1 = -k.slo + (k.sales.getD 0 (0, 0)).2 := rfl
  constructor
  · intro hg
    have h3 := (hg.fit 0 (by omega)).1
    rw [Nat.zero_add, hp1] at h3
    have h4 := hnd.1 h3
    rw [Nat.zero_add, hlk] at h4
    refine ⟨by omega, ⟨by simp [e1, hl], fun d hd => ?_, fun d hd => ?_⟩⟩
    · rw [getD_drop1]; exact hg.day (d + 1) (by omega)
    · rw [pl_drop h0, later_nd, later_rm]; exact hg.fit (d + 1) (by omega)
  · rintro ⟨h3, hg⟩
    refine ⟨hl, fun d hd => ?_, fun d hd => ?_⟩
    · cases d with
      | zero => rw [h0]; have := hv.most1; omega
      | succ d => have := hg.day d (by omega); rw [getD_drop1] at this; exact this
    · cases d with
      | zero =>
        rw [Nat.zero_add, hp1]
        exact ⟨hnd.2 (by rw [Nat.zero_add, hlk]; omega), (rm_in hv (by omega)).1⟩
      | succ d => have := hg.fit d (by omega); rw [pl_drop h0, later_nd, later_rm] at this; exact this
theorem later_cpv {k : K} {plan : List Int} (hc : chk k = 0) (h2 : 2 ≤ k.sales.length) (hl : plan.length = k.sales.length) (h0 : plan.getD 0 0 = 0) :
    ((cpv k plan).2 = 0 → cpv (later k) (plan.drop 1) = cpv k plan) ∧ ((cpv (later k) (plan.drop 1)).2 = 0 → 0 ≤ k.slo - (k.sales.getD 0 (0, 0)).2 → cpv k plan = cpv (later k) (plan.drop 1)) := by
  have hv := Vk.of hc
  have key : Good k plan → cpv (later k) (plan.drop 1) = cpv k plan := fun hg => by
    obtain ⟨h3, hg'⟩ := (later_good hv h2 hl h0).1 hg
    rw [cpv_good (later_vk hv h2 h3) hg', cpv_good hc hg, pc_drop h0]
    simp only [later, List.length_drop]
    rw [show k.sales.length - 1 + 1 = k.sales.length by omega]
  constructor
  · exact fun h => key (cpv_zero h).2.1
  · intro h h3
    exact (key ((later_good hv h2 hl h0).2 ⟨h3, (cpv_zero h).2.1⟩)).symm

/-! ### The bound of values -/
def nxtV (vs : List Int) (n d : Nat) : Int := if d + 1 < n then vs.getD (d + 1) 0 else 0
def bterm (k : K) (vs : List Int) (d : Nat) : Int :=
  nd k d * max 0 (vs.getD d 0 - nxtV vs k.sales.length d) - rm k d * max 0 (nxtV vs k.sales.length d - vs.getD d 0) - k.most * max 0 (vs.getD d 0 - k.costs.getD d 0)
/-- the first d days' part of the bound -/
def bnd (k : K) (vs : List Int) : Nat → Int
  | 0 => 0
  | d + 1 => bnd k vs d + bterm k vs d
def offVals (vs : List Int) : Bool := vs.any fun x => decide (x < 0 ∨ 100000 < x)
/-- the bound, and the error -/
def cvl (k : K) (vs : List Int) : Int × Int := if chk k ≠ 0 then (0, chk k) else if vs.length ≠ k.sales.length then (0, 15) else if offVals vs = true then (0, 3) else (bnd k vs k.sales.length, 0)
theorem bterm_le {k : K} (hv : Vk k) {plan vs : List Int} (hg : Good k plan) {d : Nat} (hd : d < k.sales.length) :
    bterm k vs d ≤ pl plan (d + 1) * (vs.getD d 0 - nxtV vs k.sales.length d) + plan.getD d 0 * k.costs.getD d 0 - plan.getD d 0 * vs.getD d 0 := by
  obtain ⟨f1, f2⟩ := hg.fit d hd
  obtain ⟨x1, x2⟩ := hg.day d hd
  unfold bterm
  generalize vs.getD d 0 = v
  generalize nxtV vs k.sales.length d = w
  generalize plan.getD d 0 = x at *
  generalize pl plan (d + 1) = s at *
  generalize k.costs.getD d 0 = c
  have h1 : nd k d * max 0 (v - w) - rm k d * max 0 (w - v) ≤ s * (v - w) := by
    by_cases h : w ≤ v
    · rw [show max 0 (v - w) = v - w by omega, show max 0 (w - v) = 0 by omega]
      have := Int.mul_le_mul_of_nonneg_right f1 (show 0 ≤ v - w by omega)
      omega
    · rw [show max 0 (v - w) = 0 by omega, show max 0 (w - v) = w - v by omega]
      have h3 := Int.mul_le_mul_of_nonneg_right f2 (show 0 ≤ w - v by omega)
      have h4 : s * (v - w) = -(s * (w - v)) := by rw [← Int.mul_neg]; congr 1; omega
      omega
  have h2 : x * v - x * c ≤ k.most * max 0 (v - c) := by
    rw [← Int.mul_sub]
    by_cases h : c ≤ v
    · rw [show max 0 (v - c) = v - c by omega]
      exact Int.mul_le_mul_of_nonneg_right x2 (by omega)
    · rw [show max 0 (v - c) = 0 by omega]
      have := Int.mul_nonneg x1 (show 0 ≤ c - v by omega)
      have h4 : x * (v - c) = -(x * (c - v)) := by rw [← Int.mul_neg]; congr 1; omega
      omega
  omega
/-- no plan that is good costs less than the bound of values -/
theorem bnd_le {k : K} (hv : Vk k) {plan vs : List Int} (hg : Good k plan) : bnd k vs k.sales.length ≤ pc k plan k.sales.length := by
  have main : ∀ d, d ≤ k.sales.length → bnd k vs d ≤ pc k plan d - pl plan d * (if d < k.sales.length then vs.getD d 0 else 0) := by
    intro d
    induction d with
    | zero => intro _; simp [bnd, pc, pl]
    | succ d ih =>
      intro hd
      have ih := ih (by omega)
      rw [if_pos (by omega)] at ih
      have ht := bterm_le hv (vs := vs) hg (show d < k.sales.length by omega)
      simp only [bnd, pc]
      have e : nxtV vs k.sales.length d = if d + 1 < k.sales.length then vs.getD (d + 1) 0 else 0 := rfl
      rw [← e]
      have e2 : pl plan (d + 1) = pl plan d + plan.getD d 0 := rfl
      rw [Int.mul_sub, e2, Int.add_mul, Int.add_mul] at ht
      rw [e2, Int.add_mul]
      omega
  have := main k.sales.length (Nat.le_refl _)
  rw [if_neg (by omega)] at this
  omega
end Go.Ax
