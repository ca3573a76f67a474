/-
  The trie's laws.
-/
import Derived.Test.YtmhbmnonichopaaXA1
namespace Go.Ax
/-! ### The trie's laws -/
namespace PT
variable {α : Type}
theorem div_lt {k : Nat} (h : k ≠ 0) : k / 2 < k := by omega
theorem get_nil (k : Nat) : (PT.nil : PT α).get k = none := rfl
theorem get_node (v : Option α) (l r : PT α) (k : Nat) : (PT.node v l r).get k = if k = 0 then v else if k % 2 = 1 then l.get (k / 2) else r.get (k / 2 - 1) := by
  simp only [PT.get, cond_eq_ite, Nat.beq_eq]
theorem get_setF : ∀ (f : Nat) (t : PT α) (k j : Nat) (a : α), k < f → (setF f t k a).get j = if j = k then some a else t.get j := by
  intro f
  induction f with
  | zero => intro t k j a h; omega
  | succ f ih =>
    intro t k j a h
    have key : ∀ (v : Option α) (l r : PT α), (if k = 0 then PT.node (some a) l r else if k % 2 = 1 then PT.node v (setF f l (k / 2) a) r else PT.node v l (setF f r (k / 2 - 1) a)).get j
        = if j = k then some a else (PT.node v l r).get j := by
      intro v l r
      by_cases h0 : k = 0
      · subst h0
        simp only [if_true, get_node]
        by_cases hj : j = 0 <;> simp [hj]
      · rw [if_neg h0]
        by_cases h1 : k % 2 = 1
        · rw [if_pos h1]
          simp only [get_node]
          by_cases hj : j = 0
          · subst hj; rw [if_pos rfl, if_neg (by omega), if_pos rfl]
          · rw [if_neg hj, if_neg hj]
            by_cases hj1 : j % 2 = 1
            · rw [if_pos hj1, if_pos hj1, ih _ _ _ _ (by omega)]
              by_cases e : j = k
              · subst e; simp
              · rw [if_neg (by omega), if_neg e]
            · rw [if_neg hj1, if_neg hj1, if_neg (by intro e; subst e; exact hj1 h1)]
        · rw [if_neg h1]
          simp only [get_node]
          by_cases hj : j = 0
          · subst hj; rw [if_pos rfl, if_neg (by omega), if_pos rfl]
          · rw [if_neg hj, if_neg hj]
            by_cases hj1 : j % 2 = 1
            · rw [if_pos hj1, if_pos hj1, if_neg (by intro e; subst e; exact h1 hj1)]
            · rw [if_neg hj1, if_neg hj1, ih _ _ _ _ (by omega)]
              by_cases e : j = k
              · subst e; simp
              · rw [if_neg (by omega), if_neg e]
    cases t with
    | nil =>
      have := key none .nil .nil
      simp only [setF, cond_eq_ite, Nat.beq_eq]
      rw [this]
      simp [get_node, get_nil]
    | node v l r =>
      simp only [setF, cond_eq_ite, Nat.beq_eq]
      exact key v l r
theorem get_set (t : PT α) (k j : Nat) (a : α) : (t.set k a).get j = if j = k then some a else t.get j := get_setF _ _ _ _ _ (Nat.lt_succ_self k)
theorem get_set_same (t : PT α) (k : Nat) (a : α) : (t.set k a).get k = some a := by rw [get_set, if_pos rfl]
theorem get_set_ne (t : PT α) {k j : Nat} (a : α) (h : j ≠ k) : (t.set k a).get j = t.get j := by rw [get_set, if_neg h]

theorem setF_comm : ∀ (f g : Nat) (t : PT α) (k j : Nat) (a b : α), k < f → j < g → k ≠ j → ∀ f' g', k < f' → j < g' →
    setF f (setF g t j b) k a = setF g' (setF f' t k a) j b := by
  intro f
  induction f with
  | zero => intro g t k j a b h; omega
  | succ f ih =>
    intro g t k j a b hf hg hne f' g' hf' hg'
    obtain ⟨g, rfl⟩ : ∃ m, g = m + 1 := ⟨g - 1, by omega⟩
    obtain ⟨f', rfl⟩ : ∃ m, f' = m + 1 := ⟨f' - 1, by omega⟩
    obtain ⟨g', rfl⟩ : ∃ m, g' = m + 1 := ⟨g' - 1, by omega⟩
    have same : ∀ (n m : Nat) (t : PT α) (i : Nat) (c : α), i < n → i < m → setF n t i c = setF m t i c := by
      intro n
      induction n with
      | zero => intro m t i c h; omega
      | succ n ihn =>
        intro m t i c hn hm
        obtain ⟨m, rfl⟩ : ∃ q, m = q + 1 := ⟨m - 1, by omega⟩
        cases t with
        | nil =>
          simp only [setF, cond_eq_ite, Nat.beq_eq]
          by_cases h0 : i = 0
          · simp [h0]
          · rw [if_neg h0, if_neg h0, ihn m .nil (i / 2) c (by omega) (by omega), ihn m .nil (i / 2 - 1) c (by omega) (by omega)]
        | node v l r =>
          simp only [setF, cond_eq_ite, Nat.beq_eq]
          by_cases h0 : i = 0
          · simp [h0]
          · rw [if_neg h0, if_neg h0, ihn m l (i / 2) c (by omega) (by omega), ihn m r (i / 2 - 1) c (by omega) (by omega)]
    have norm : ∀ (n : Nat) (v : Option α) (l r : PT α) (i : Nat) (c : α), setF (n + 1) (PT.node v l r) i c = if i = 0 then PT.node (some c) l r else if i % 2 = 1 then PT.node v (setF n l (i / 2) c) r else PT.node v l (setF n r (i / 2 - 1) c) := by
      intro n v l r i c; simp only [setF, cond_eq_ite, Nat.beq_eq]
    have nnil : ∀ (n : Nat) (i : Nat) (c : α), setF (n + 1) (PT.nil : PT α) i c = if i = 0 then PT.node (some c) .nil .nil else if i % 2 = 1 then PT.node none (setF n .nil (i / 2) c) .nil else PT.node none .nil (setF n .nil (i / 2 - 1) c) := by
      intro n i c; simp only [setF, cond_eq_ite, Nat.beq_eq]
    have main : ∀ (v : Option α) (l r : PT α), setF (f + 1) (setF (g + 1) (PT.node v l r) j b) k a = setF (g' + 1) (setF (f' + 1) (PT.node v l r) k a) j b := by
      intro v l r
      rw [norm g, norm f']
      by_cases hk0 : k = 0
      · subst hk0
        have hj0 : j ≠ 0 := fun e => hne e.symm
        rw [if_neg hj0, if_pos rfl, norm g', if_neg hj0]
        by_cases hj1 : j % 2 = 1
        · rw [if_pos hj1, if_pos hj1, norm f, if_pos rfl, same g g' l (j / 2) b (by omega) (by omega)]
        · rw [if_neg hj1, if_neg hj1, norm f, if_pos rfl, same g g' r (j / 2 - 1) b (by omega) (by omega)]
      · rw [if_neg hk0]
        by_cases hj0 : j = 0
        · subst hj0
          rw [if_pos rfl, norm f, if_neg hk0]
          by_cases hk1 : k % 2 = 1
          · rw [if_pos hk1, if_pos hk1, norm g', if_pos rfl, same f f' l (k / 2) a (by omega) (by omega)]
          · rw [if_neg hk1, if_neg hk1, norm g', if_pos rfl, same f f' r (k / 2 - 1) a (by omega) (by omega)]
        · rw [if_neg hj0]
          by_cases hk1 : k % 2 = 1
          · rw [if_pos hk1]
            by_cases hj1 : j % 2 = 1
            · rw [if_pos hj1, norm f, if_neg hk0, if_pos hk1, norm g', if_neg hj0, if_pos hj1, ih g l (k / 2) (j / 2) a b (by omega) (by omega) (by omega) f' g' (by omega) (by omega)]
            · rw [if_neg hj1, norm f, if_neg hk0, if_pos hk1, norm g', if_neg hj0, if_neg hj1, same f f' l (k / 2) a (by omega) (by omega), same g g' r (j / 2 - 1) b (by omega) (by omega)]
          · rw [if_neg hk1]
            by_cases hj1 : j % 2 = 1
            · rw [if_pos hj1, norm f, if_neg hk0, if_neg hk1, norm g', if_neg hj0, if_pos hj1, same f f' r (k / 2 - 1) a (by omega) (by omega), same g g' l (j / 2) b (by omega) (by omega)]
            · rw [if_neg hj1, norm f, if_neg hk0, if_neg hk1, norm g', if_neg hj0, if_neg hj1, ih g r (k / 2 - 1) (j / 2 - 1) a b (by omega) (by omega) (by omega) f' g' (by omega) (by omega)]
    cases t with
    | node v l r => exact main v l r
    | nil =>
      have e1 : ∀ (n i : Nat) (c : α), setF (n + 1) (PT.nil : PT α) i c = setF (n + 1) (PT.node none .nil .nil) i c := by
        intro n i c; rw [nnil, norm]
      rw [e1 g, e1 f']
      exact main none .nil .nil
theorem set_comm (t : PT α) {k j : Nat} (a b : α) (h : k ≠ j) : (t.set j b).set k a = (t.set k a).set j b := setF_comm _ _ _ _ _ _ _ (Nat.lt_succ_self k) (Nat.lt_succ_self j) h _ _ (Nat.lt_succ_self k) (Nat.lt_succ_self j)
end PT

theorem Env.get_put_some (e : Env) (t j : Nat) (v : AV) : (e.put (some t) v).get j = if j = t then v else e.get j := by
  simp only [Env.get, Env.put, PT.get_set]; split <;> rfl
theorem Env.put_none (e : Env) (v : AV) : e.put none v = e := rfl

namespace H
variable (h : H)
theorem get_put (b k : Nat) (x : ABlk) : (h.put b x).get k = if k = b then some x else h.get k := by simp only [get, put, PT.get_set]
theorem get_new (b k : Nat) (x : ABlk) : (h.new b x).get k = if k = b then some x else h.get k := by simp only [get, new, PT.get_set]
theorem next_put (b : Nat) (x : ABlk) : (h.put b x).next = h.next := rfl
theorem next_new (b : Nat) (x : ABlk) : (h.new b x).next = max h.next (b + 1) := rfl
end H

end Go.Ax
