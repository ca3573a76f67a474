/-
  Plain: ways, and what is sent on them; how tanks are come to.
-/
import Derived.Test.YtjcehnfhkgbpiaaXNA
namespace Go.Ax
set_option linter.unusedSimpArgs false
set_option linter.unusedVariables false
attribute [-simp] List.getD_eq_getElem?_getD
def oth (fs : List Fl) (i : Nat) (a : Int) : Int := if (gF fs i).f = a then (gF fs i).t else (gF fs i).f
def roomR (fs : List Fl) (x : List Int) (i : Nat) (a : Int) : Int := if (gF fs i).f = a then (gF fs i).hi - x.getD i 0 else if (gF fs i).t = a then x.getD i 0 - (gF fs i).lo else 0
def isEnd (fs : List Fl) (i : Nat) (a : Int) : Prop := (gF fs i).f = a ∨ (gF fs i).t = a
abbrev Hop := Nat × Int
def push1 (fs : List Fl) (m : Int) (x : List Int) (h : Hop) : List Int := x.set h.1 (if (gF fs h.1).f = h.2 then x.getD h.1 0 + m else x.getD h.1 0 - m)
def pushW (fs : List Fl) (m : Int) (x : List Int) (W : List Hop) : List Int := W.foldl (push1 fs m) x
def IsWay (fs : List Fl) (a : Int) : Int → List Hop → Prop
  | e, [] => e = a
  | e, h :: W => h.1 < fs.length ∧ isEnd fs h.1 h.2 ∧ oth fs h.1 h.2 = e ∧ IsWay fs a h.2 W
theorem push1_len {fs : List Fl} {m : Int} {x : List Int} {h : Hop} : (push1 fs m x h).length = x.length := by simp [push1]
theorem getD_setI {x : List Int} {j i : Nat} {z : Int} (h : j < x.length) : (x.set j z).getD i 0 = if i = j then z else x.getD i 0 := by
  simp only [List.getD, List.getElem?_set]
  by_cases e : i = j
  · subst e; simp [h]
  · rw [if_neg (fun k => e k.symm), if_neg e]
theorem push1_ov {fs : List Fl} {m : Int} {x : List Int} {h : Hop} {t : Int} (hl : x.length = fs.length) (hne : ∀ i, i < fs.length → (gF fs i).f ≠ (gF fs i).t) (hi : h.1 < fs.length) (he : isEnd fs h.1 h.2) :
    ov fs (push1 fs m x h) fs.length t = ov fs x fs.length t + (if t = oth fs h.1 h.2 then m else 0) - (if t = h.2 then m else 0) := by
  unfold ov
  rw [sumN_one (g := br fs (push1 fs m x h) t) (h := br fs x t) (j := h.1) (fun i hi' => by unfold br push1; rw [getD_setI (by omega), if_neg hi']) hi]
  have e1 : br fs (push1 fs m x h) t h.1 - br fs x t h.1 = (if t = oth fs h.1 h.2 then m else 0) - (if t = h.2 then m else 0) := by
    have hn := hne h.1 hi
    unfold br push1 oth
    rw [getD_setI (by omega), if_pos rfl]
    rcases he with he | he
    · rw [if_pos he, if_pos he]
      by_cases e1 : (gF fs h.1).t = t <;> by_cases e2 : (gF fs h.1).f = t <;> simp only [e1, e2, if_true, if_false, eq_comm (a := t)] <;> simp only [← he, e1, e2, if_true, if_false] <;> omega
    · have hf : ¬ (gF fs h.1).f = h.2 := by omega
      rw [if_neg hf, if_neg hf]
      by_cases e1 : (gF fs h.1).t = t <;> by_cases e2 : (gF fs h.1).f = t <;> simp only [e1, e2, if_true, if_false, eq_comm (a := t)] <;> simp only [← he, e1, e2, if_true, if_false] <;> omega
  rw [e1]; omega
theorem pushW_ov {fs : List Fl} {m a : Int} {t : Int} (hne : ∀ i, i < fs.length → (gF fs i).f ≠ (gF fs i).t) : ∀ {W : List Hop} {e : Int} {x : List Int}, x.length = fs.length → IsWay fs a e W → ov fs (pushW fs m x W) fs.length t = ov fs x fs.length t + (if t = e then m else 0) - (if t = a then m else 0)
  | [], e, x, _, hw => by
    have hw : e = a := hw
    subst hw; show ov fs x fs.length t = _; omega
  | h :: W, e, x, hl, ⟨h1, h2, h3, h4⟩ => by
    show ov fs (pushW fs m (push1 fs m x h) W) fs.length t = _
    rw [pushW_ov hne (by rw [push1_len]; exact hl) h4, push1_ov hl hne h1 h2, h3]
    omega
theorem pushW_get {fs : List Fl} {m : Int} {j : Nat} : ∀ {W : List Hop} {x : List Int}, (∀ h ∈ W, h.1 < x.length ∧ h.1 ≠ j) → (pushW fs m x W).getD j 0 = x.getD j 0
  | [], _, _ => rfl
  | h :: W, x, k => by
    show (pushW fs m (push1 fs m x h) W).getD j 0 = _
    have h0 := k h (List.mem_cons_self ..)
    rw [pushW_get fun g hg => ⟨by rw [push1_len]; exact (k g (List.mem_cons_of_mem _ hg)).1, (k g (List.mem_cons_of_mem _ hg)).2⟩]
    unfold push1
    rw [getD_setI h0.1, if_neg (fun e => h0.2 e.symm)]
theorem pushW_inRg {fs : List Fl} {m : Int} (hm : 0 ≤ m) : ∀ {W : List Hop} {x : List Int}, inRg fs x → (∀ h ∈ W, h.1 < fs.length ∧ m ≤ roomR fs x h.1 h.2) → (W.map (·.1)).Nodup → inRg fs (pushW fs m x W)
  | [], _, hr, _, _ => hr
  | h :: W, x, hr, k, nd => by
    show inRg fs (pushW fs m (push1 fs m x h) W)
    rw [List.map_cons, List.nodup_cons] at nd
    have h0 := k h (List.mem_cons_self ..)
    have hx : h.1 < x.length := by rw [hr.1]; exact h0.1
    refine pushW_inRg hm ⟨by rw [push1_len]; exact hr.1, fun i hi => ?_⟩ (fun g hg => ?_) nd.2
    · unfold push1
      rw [getD_setI hx]
      have h1 := hr.2 i hi
      by_cases e : i = h.1
      · subst e
        rw [if_pos rfl]
        have h2 := h0.2
        unfold roomR at h2
        split
        · rename_i e; rw [if_pos e] at h2; omega
        · rename_i e; rw [if_neg e] at h2; split at h2 <;> omega
      · rw [if_neg e]; exact h1
    · have hg' := k g (List.mem_cons_of_mem _ hg)
      refine ⟨hg'.1, ?_⟩
      have hne : g.1 ≠ h.1 := fun e => nd.1 (e ▸ List.mem_map_of_mem (f := (·.1)) hg)
      unfold roomR push1
      rw [getD_setI hx, if_neg hne]
      exact hg'.2
abbrev Cm := Int × Nat × Int
def nodes (a : Int) (D : List Cm) : List Int := D.map (·.1) ++ [a]
inductive Tr (T : Int) (fs : List Fl) (x : List Int) (but a : Int) : List Cm → Prop
  | nil : Tr T fs x but a []
  | cons {t : Int} {i : Nat} {b : Int} {D : List Cm} (k : Tr T fs x but a D) (ht : t ∉ nodes a D) (hb : b ∈ nodes a D) (hT : 0 ≤ t ∧ t ≤ T) (hi : i < fs.length) (hbut : (i : Int) ≠ but) (he : isEnd fs i b) (ho : oth fs i b = t) (hr : 0 < roomR fs x i b) : Tr T fs x but a ((t, i, b) :: D)
def wayT : List Cm → Int → List Hop
  | [], _ => []
  | (t, i, b) :: D, e => if t = e then (i, b) :: wayT D b else wayT D e
theorem nodes_cons {a : Int} {c : Cm} {D : List Cm} {t : Int} : t ∈ nodes a (c :: D) ↔ t = c.1 ∨ t ∈ nodes a D := by simp [nodes]
theorem nodes_root {a : Int} {D : List Cm} : a ∈ nodes a D := by simp [nodes]
section
variable {T : Int} {fs : List Fl} {x : List Int} {but a : Int}
theorem Tr.way : ∀ {D : List Cm} {e : Int}, Tr T fs x but a D → e ∈ nodes a D → IsWay fs a e (wayT D e)
  | [], e, _, he => by
    simp only [nodes, List.map_nil, List.nil_append, List.mem_singleton] at he
    exact he
  | _ :: D, e, .cons (t := t) (i := i) (b := b) k ht hb hT hi hbut hend ho hr, he => by
    unfold wayT
    by_cases h : t = e
    · rw [if_pos h]
      exact ⟨hi, hend, by rw [ho, h], k.way hb⟩
    · rw [if_neg h]
      rcases nodes_cons.1 he with he | he
      · exact absurd he.symm h
      · exact k.way he
theorem Tr.hops : ∀ {D : List Cm} {e : Int}, Tr T fs x but a D → ∀ h ∈ wayT D e, h.1 < fs.length ∧ (h.1 : Int) ≠ but ∧ 0 < roomR fs x h.1 h.2 ∧ (gF fs h.1).f ∈ nodes a D ∧ (gF fs h.1).t ∈ nodes a D
  | [], _, _, h, hm => by cases hm
  | _ :: D, e, .cons (t := t) (i := i) (b := b) k ht hb hT hi hbut hend ho hr, h, hm => by
    unfold wayT at hm
    have sub : ∀ {e}, h ∈ wayT D e → h.1 < fs.length ∧ (h.1 : Int) ≠ but ∧ 0 < roomR fs x h.1 h.2 ∧ (gF fs h.1).f ∈ nodes a ((t, i, b) :: D) ∧ (gF fs h.1).t ∈ nodes a ((t, i, b) :: D) := fun hm => by
      obtain ⟨h1, h2, h3, h4, h5⟩ := k.hops h hm
      exact ⟨h1, h2, h3, nodes_cons.2 (.inr h4), nodes_cons.2 (.inr h5)⟩
    by_cases h : t = e
    · rw [if_pos h] at hm
      rcases List.mem_cons.1 hm with rfl | hm
      · refine ⟨hi, hbut, hr, ?_⟩
        show (gF fs i).f ∈ _ ∧ (gF fs i).t ∈ _
        unfold oth at ho
        rcases hend with hend | hend
        · rw [if_pos hend] at ho
          rw [hend, ho]
          exact ⟨nodes_cons.2 (.inr hb), nodes_cons.2 (.inl rfl)⟩
        · rw [hend]
          split at ho
          · rename_i hf; rw [hf]; exact ⟨nodes_cons.2 (.inr hb), nodes_cons.2 (.inr hb)⟩
          · rw [ho]; exact ⟨nodes_cons.2 (.inl rfl), nodes_cons.2 (.inr hb)⟩
      · exact sub hm
    · rw [if_neg h] at hm; exact sub hm
theorem Tr.nodup (hne : ∀ i, i < fs.length → (gF fs i).f ≠ (gF fs i).t) : ∀ {D : List Cm} {e : Int}, Tr T fs x but a D → ((wayT D e).map (·.1)).Nodup
  | [], _, _ => List.nodup_nil
  | _ :: D, e, .cons (t := t) (i := i) (b := b) k ht hb hT hi hbut hend ho hr => by
    unfold wayT
    by_cases h : t = e
    · rw [if_pos h, List.map_cons, List.nodup_cons]
      refine ⟨fun hm => ?_, k.nodup hne⟩
      obtain ⟨g, hg, hgi⟩ := List.mem_map.1 hm
      have hgi : g.1 = i := hgi
      obtain ⟨_, _, _, h4, h5⟩ := k.hops g hg
      rw [hgi] at h4 h5
      unfold oth at ho
      split at ho
      · rw [ho] at h5; exact ht h5
      · rw [ho] at h4; exact ht h4
    · rw [if_neg h]; exact k.nodup hne
theorem Tr.sent (hne : ∀ i, i < fs.length → (gF fs i).f ≠ (gF fs i).t) {D : List Cm} {e m : Int} (k : Tr T fs x but a D) (he : e ∈ nodes a D) (hr : inRg fs x) (hm : 0 ≤ m) (hmr : ∀ h ∈ wayT D e, m ≤ roomR fs x h.1 h.2) :
    inRg fs (pushW fs m x (wayT D e)) ∧ (∀ t, ov fs (pushW fs m x (wayT D e)) fs.length t = ov fs x fs.length t + (if t = e then m else 0) - (if t = a then m else 0)) ∧ ∀ j : Nat, (j : Int) = but → (pushW fs m x (wayT D e)).getD j 0 = x.getD j 0 :=
  ⟨pushW_inRg hm hr (fun h hh => ⟨(k.hops h hh).1, hmr h hh⟩) (k.nodup hne), fun t => pushW_ov hne hr.1 (k.way he), fun j hj => pushW_get fun h hh => ⟨by rw [hr.1]; exact (k.hops h hh).1, fun e => (k.hops h hh).2.1 (by rw [e]; exact hj)⟩⟩
theorem Tr.node_range (ha : 0 ≤ a ∧ a ≤ T) : ∀ {D : List Cm}, Tr T fs x but a D → ∀ t ∈ nodes a D, 0 ≤ t ∧ t ≤ T
  | [], _, t, ht => by simp only [nodes, List.map_nil, List.nil_append, List.mem_singleton] at ht; subst ht; exact ha
  | _ :: D, .cons k _ _ hT _ _ _ _ _, t, ht => by
    rcases nodes_cons.1 ht with rfl | ht
    · exact hT
    · exact k.node_range ha t ht
theorem Tr.node_nodup : ∀ {D : List Cm}, Tr T fs x but a D → (nodes a D).Nodup
  | [], _ => by simp [nodes]
  | _ :: D, .cons k ht _ _ _ _ _ _ _ => by
    have := k.node_nodup
    show ((_ : Int) :: nodes a D).Nodup
    exact List.nodup_cons.2 ⟨ht, this⟩
end
theorem nodup_len : ∀ (n : Nat) (l : List Int), l.Nodup → (∀ t ∈ l, 0 ≤ t ∧ t < (n : Int)) → l.length ≤ n
  | 0, [], _, _ => Nat.le_refl _
  | 0, t :: l, _, h => by have := h t (List.mem_cons_self ..); omega
  | n + 1, l, nd, h => by
    have h1 := nodup_len n (l.filter (· ≠ (n : Int))) (nd.filter _) fun t ht => by
      rw [List.mem_filter] at ht
      have := h t ht.1
      have : t ≠ (n : Int) := by simpa using ht.2
      omega
    have h2 : ∀ (l : List Int), l.Nodup → l.length ≤ (l.filter (· ≠ (n : Int))).length + 1 := by
      intro l
      induction l with
      | nil => intro _; simp
      | cons t l ih =>
        intro nd
        rw [List.nodup_cons] at nd
        by_cases e : t = (n : Int)
        · subst e
          have : l.filter (· ≠ (n : Int)) = l := List.filter_eq_self.2 fun s hs => by
            simp only [decide_not, Bool.not_eq_true', decide_eq_false_iff_not, ne_eq]
            exact fun he => nd.1 (he ▸ hs)
          rw [List.filter_cons_of_neg (by simp), this]
          simp
        · rw [List.filter_cons_of_pos (by simpa using e)]
          have := ih nd.2
          simp only [List.length_cons]
          omega
    have := h2 l nd
    omega
theorem Tr.len {T : Int} {fs : List Fl} {x : List Int} {but a : Int} {D : List Cm} (k : Tr T fs x but a D) (ha : 0 ≤ a ∧ a ≤ T) : D.length ≤ T.toNat := by
  have := nodup_len (T.toNat + 1) (nodes a D) k.node_nodup fun t ht => by have := k.node_range ha t ht; omega
  simp only [nodes, List.length_append, List.length_map, List.length_singleton] at this
  omega
end Go.Ax
