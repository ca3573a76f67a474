/-
  Judgements: an element appended, and which blocks that touches.
-/
import Derived.Test.YtmhbmnonichopaaXW3
namespace Go.Ax
set_option linter.unusedSimpArgs false
set_option linter.unusedVariables false
variable {tbl : Nat → Option AFn} {lo bd : Nat} {E : FE} {F : Hp} {d : Option Nat} {R : FE → Hp → Cls → Prop} {x : AO}
theorem nd_mid {F1 F2 : Hp} {b : Nat} {y : ABlk} (h : ((F1 ++ ([(b, y)] ++ F2)).map (·.1)).Nodup) : ∀ p ∈ F1 ++ F2, p.1 ≠ b := by
  intro p hp he
  rw [List.map_append, List.nodup_append] at h
  obtain ⟨h1, h2, h3⟩ := h
  rcases List.mem_append.1 hp with hp | hp
  · exact h3 p.1 (List.mem_map.2 ⟨p, hp, rfl⟩) b (by simp) he
  · simp only [List.cons_append, List.nil_append, List.map_cons, List.nodup_cons] at h2
    exact h2.1 (List.mem_map.2 ⟨p, hp, he⟩)
theorem W1.appIO {ov : AV} {Fo F1 F2 : Hp} {xs : List Int} {z : Int} {s : AO} {xb cx xe : Nat} {xx own : Bool} (hF : F = F1 ++ (Fo ++ F2)) (ho : OwnI lo false ov Fo xs) (hs : xev E s = ov) (hx : xev E x = .slc (some (xb, 0)) 1 cx xx xe)
    (hm : (xb, .cells [.int .i64 z] own) ∈ F1 ++ F2) (hl : xs.length < 1000000000000)
    (k : ∀ ov' Fo' (l : List Nat), OwnI lo false ov' Fo' (xs ++ [z]) → (∀ b ∈ l, ∀ p ∈ F1 ++ F2, p.1 = b → b = xb) → (∀ b ∈ l, (∃ p ∈ Fo, p.1 = b) ∨ b = xb ∨ ∃ p ∈ Fo', p.1 = b) → R (fput E d ov') (Fo' ++ (F1 ++ F2)) (.own l)) : W1 tbl lo bd ⟨d, .app 1 8 s x, none⟩ E F R := by
  subst hF
  refine W1.loc rfl fun h aid hF hfr hlo hw _ => ?_
  have hsub : (F1 ++ F2).Sublist (F1 ++ (Fo ++ F2)) := (List.Sublist.refl F1).append (List.sublist_append_right _ _)
  cases ho with
  | nil =>
    refine ⟨.slc (some (aid, 0)) 1 1 false 1, h.new aid (.cells [.int .i64 z] true), .loc [xb] [] (some aid), _, .own [xb, aid], ?_, (hF.sub hsub).new _ (fun p hp => hfr p (hsub.subset hp)), by show h.next ≤ max h.next (aid + 1); omega, hw, ⟨_, _, _, rfl, by simp⟩, ?_,
      k _ [(aid, .cells [.int .i64 z] true)] [xb, aid] (.row' hlo rfl rfl) ?_ ?_⟩
    · simp only [opLocF, hs, hx]
      rw [if_pos (by unfold room; omega), if_neg (by omega), if_pos trivial]
      simp only [Loc.run, getAll, hF.get _ (hsub.subset hm)]
      rfl
    · intro p hp
      rcases List.mem_cons.1 hp with rfl | hp
      · exact .inr (.inl rfl)
      · exact .inl ⟨p, hsub.subset hp, rfl⟩
    · intro b hb p hp he
      simp only [List.mem_cons, List.not_mem_nil, or_false] at hb
      rcases hb with rfl | rfl
      · rfl
      · exact absurd he (hfr p (hsub.subset hp))
    · intro b hb
      simp only [List.mem_cons, List.not_mem_nil, or_false] at hb
      rcases hb with rfl | rfl
      · exact .inr (.inl rfl)
      · exact .inr (.inr ⟨_, List.mem_cons_self .., rfl⟩)
  | @row b xs hb =>
    have hr : Rem (F1 ++ ([(b, .cells (xs.map (.int .i64)) true)] ++ F2)) b (.cells (xs.map (.int .i64)) true) (F1 ++ F2) := Rem.append
    have e2 : List.take (xs.length * 1) (List.drop 0 (xs.map (AV.int .i64))) ++ List.take (1 * 1) (List.drop 0 [AV.int .i64 z]) = (xs ++ [z]).map (.int .i64) := by
      rw [List.drop_zero, Nat.mul_one, List.map_append]
      congr 1
      rw [List.take_of_length_le (by simp)]
    have hrun : (3 * (xs.length + 1) + 2000) * 8 ≤ room := by unfold room; omega
    have hnb := nd_mid hF.nd
    refine ⟨.slc (some (aid, 0)) (xs.length + 1) (xs.length + 1) false 1, (h.put b .dead).new aid (.cells ((xs ++ [z]).map (.int .i64)) true), .loc [b, xb] [b] (some aid), _, .own [b, xb, aid], ?_,
      (hF.rem hr).new _ (fun p hp => hfr p (hsub.subset hp)), by show h.next ≤ max h.next (aid + 1); omega, by show lo ≤ min h.wmin b; omega, ⟨_, _, _, rfl, by simp⟩, ?_,
      k _ [(aid, .cells ((xs ++ [z]).map (.int .i64)) true)] [b, xb, aid] (.row' hlo (by simp) rfl) ?_ ?_⟩
    · simp only [opLocF, hs, hx]
      rw [if_pos hrun, if_neg (by omega)]
      simp only [Loc.run, getAll, hF.get _ (hsub.subset hm), hF.get _ hr.mem]
      rw [if_pos ⟨by simp, by simp, .inr (by simp)⟩, e2]
      rfl
    · intro p hp
      rcases List.mem_cons.1 hp with rfl | hp
      · exact .inr (.inl rfl)
      · exact .inl ⟨p, hsub.subset hp, rfl⟩
    · intro c hc p hp he
      simp only [List.mem_cons, List.not_mem_nil, or_false] at hc
      rcases hc with rfl | rfl | rfl
      · exact absurd he (hnb p hp)
      · rfl
      · exact absurd he (hfr p (hsub.subset hp))
    · intro c hc
      simp only [List.mem_cons, List.not_mem_nil, or_false] at hc
      rcases hc with rfl | rfl | rfl
      · exact .inl ⟨_, List.mem_cons_self .., rfl⟩
      · exact .inr (.inl rfl)
      · exact .inr (.inr ⟨_, List.mem_cons_self .., rfl⟩)
end Go.Ax
