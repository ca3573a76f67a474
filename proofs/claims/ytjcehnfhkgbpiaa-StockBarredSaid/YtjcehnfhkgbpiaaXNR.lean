/-
  Rules for a queue of numbers; a map that tells how tanks were come to.
-/
import Derived.Test.YtjcehnfhkgbpiaaXNQ
namespace Go.Ax
set_option maxHeartbeats 1000000
set_option linter.unusedSimpArgs false
set_option linter.unusedVariables false
attribute [-simp] List.getD_eq_getElem?_getD
structure QS (v : AV) (b o : Nat) (l : List AV) (Q : List Int) : Prop where
  sv : ∃ c ex, v = .slc (some (b, o)) Q.length c ex 1 ∧ Q.length ≤ c
  sl : o + Q.length ≤ l.length
  sq : (l.drop o).take Q.length = ints Q
section
variable {tbl : Nat → Option AFn} {lo bd : Nat} {E : FE} {F : Hp} {d : Option Nat} {R : FE → Hp → Cls → Prop} {x : AO}
theorem QS.len {v : AV} {b o : Nat} {l : List AV} {Q : List Int} (h : QS v b o l Q) (hx : xev E x = v) (k : R (fput E d (.int .i64 (Q.length : Nat))) F .n) : W1 tbl lo bd ⟨d, .len x, none⟩ E F R := by
  obtain ⟨c, ex, rfl, _⟩ := h.sv
  exact W1.lenv hx k
theorem QS.head {v : AV} {b o : Nat} {l : List AV} {a : Int} {Q : List Int} {i : AO} {kd : IntKind} (h : QS v b o l (a :: Q)) (hx : xev E x = v) (hi : xev E i = .int kd 0) (k : l[o]? = some (.int .i64 a) → R (fput E d (.ptr (some (b, o)))) F .n) : W1 tbl lo bd ⟨d, .iaddrS 1 x i, none⟩ E F R := by
  obtain ⟨c, ex, rfl, _⟩ := h.sv
  refine W1.iaddr (j := 0) hx hi (by simp) ?_
  rw [show o + 0 * 1 = o by omega]
  exact k (seg_get0 h.sq rfl)
theorem QS.pop {v : AV} {b o : Nat} {l : List AV} {a : Int} {Q : List Int} {i : AO} {kd : IntKind} (h : QS v b o l (a :: Q)) (hx : xev E x = v) (hi : xev E i = .int kd 1) (k : ∀ v', QS v' b (o + 1) l Q → R (fput E d v') F .n) : W1 tbl lo bd ⟨d, .slc 1 x (some i) none none, none⟩ E F R := by
  obtain ⟨c, ex, rfl, hc⟩ := h.sv
  refine W1.slcTail hx (.inr rfl) hi (by simp) ?_
  have hl := h.sl
  have hq := h.sq
  simp only [List.length_cons] at hc hl hq ⊢
  rw [show o + 1 * 1 = o + 1 by omega]
  refine k _ ⟨⟨c - 1, ex, by rw [Nat.add_sub_cancel], by omega⟩, by omega, ?_⟩
  have := congrArg (List.drop 1) hq
  rw [List.drop_take, List.drop_drop, Nat.add_sub_cancel] at this
  exact this
theorem QS.app {v : AV} {b o : Nat} {l : List AV} {z : Int} {Q : List Int} {s : AO} {xb cx xe : Nat} {xx own : Bool} {F1 F2 : Hp} (h : QS v b o l Q) (hlo' : lo ≤ b) (hF : F = F1 ++ ((b, .cells l true) :: F2)) (hs : xev E s = v) (hx : xev E x = .slc (some (xb, 0)) 1 cx xx xe) (hm : (xb, .cells [.int .i64 z] own) ∈ F1 ++ F2) (hl : Q.length < 1000000000)
    (k : ∀ v' b', lo ≤ b' → QS v' b' 0 (ints (Q ++ [z])) (Q ++ [z]) → R (fput E d v') ((b', .cells (ints (Q ++ [z])) true) :: (F1 ++ F2)) .x) : W1 tbl lo bd ⟨d, .app 1 8 s x, none⟩ E F R := by
  subst hF
  refine W1.loc rfl fun h' aid hF hfr hlo hw _ => ?_
  obtain ⟨c, ex, rfl, hc⟩ := h.sv
  have hsub : (F1 ++ F2).Sublist (F1 ++ ((b, .cells l true) :: F2)) := (List.Sublist.refl F1).append (List.sublist_cons_self _ _)
  have hr : Rem (F1 ++ ([(b, .cells l true)] ++ F2)) b (.cells l true) (F1 ++ F2) := Rem.append
  have hl1 := h.sl
  have hq := h.sq
  have e2 : (l.drop o).take (Q.length * 1) ++ List.take (1 * 1) (List.drop 0 [AV.int .i64 z]) = ints (Q ++ [z]) := by
    rw [Nat.mul_one, hq]
    simp [ints]
  have hrun : (3 * (Q.length + 1) + 2000) * 8 ≤ room := by unfold room; omega
  have hnew : ∀ p ∈ (aid, ABlk.cells (ints (Q ++ [z])) true) :: (F1 ++ F2), (∃ q ∈ F1 ++ ((b, .cells l true) :: F2), q.1 = p.1) ∨ p.1 = aid ∨ h'.next ≤ p.1 := by
    intro p hp
    rcases List.mem_cons.1 hp with rfl | hp
    · exact .inr (.inl rfl)
    · exact .inl ⟨p, hsub.subset hp, rfl⟩
  have hQ : QS (.slc (some (aid, 0)) (Q.length + 1) (Q.length + 1) false 1) aid 0 (ints (Q ++ [z])) (Q ++ [z]) :=
    ⟨⟨Q.length + 1, false, by simp, by simp⟩, by simp, by rw [List.drop_zero]; exact List.take_of_length_le (by simp)⟩
  by_cases hfull : (ex && Nat.beq Q.length c) = true
  · refine ⟨.slc (some (aid, 0)) (Q.length + 1) (Q.length + 1) false 1, h'.new aid (.cells (ints (Q ++ [z])) true), .loc [b, xb] [] (some aid), _, .x, ?_,
      (hF.sub hsub).new _ (fun p hp => hfr p (hsub.subset hp)), by show h'.next ≤ max h'.next (aid + 1); omega, hw, trivial, hnew, k _ aid hlo hQ⟩
    simp only [opLocF, hs, hx]
    rw [if_pos hrun, if_neg (by omega)]
    simp only [Loc.run, getAll, hF.get _ (hsub.subset hm), hF.get _ hr.mem]
    rw [if_pos ⟨by omega, by simp, .inr (by simp)⟩, e2, hfull]
    rfl
  · have hfull : (ex && Nat.beq Q.length c) = false := Bool.eq_false_iff.2 hfull
    refine ⟨.slc (some (aid, 0)) (Q.length + 1) (Q.length + 1) false 1, (h'.put b .dead).new aid (.cells (ints (Q ++ [z])) true), .loc [b, xb] [b] (some aid), _, .x, ?_,
      (hF.rem hr).new _ (fun p hp => hfr p (hsub.subset hp)), by show h'.next ≤ max h'.next (aid + 1); omega, by show lo ≤ min h'.wmin b; omega, trivial, hnew, k _ aid hlo hQ⟩
    simp only [opLocF, hs, hx]
    rw [if_pos hrun, if_neg (by omega)]
    simp only [Loc.run, getAll, hF.get _ (hsub.subset hm), hF.get _ hr.mem]
    rw [if_pos ⟨by omega, by simp, .inr (by simp)⟩, e2, hfull]
    rfl
theorem QS.one {b : Nat} {a : Int} {cap : Nat} {ex : Bool} (hc : 1 ≤ cap) : QS (.slc (some (b, 0)) 1 cap ex 1) b 0 [.int .i64 a] [a] := ⟨⟨cap, ex, rfl, hc⟩, by simp, rfl⟩
end
def hopv (h : Hop) : AV := .agg [.int .i64 h.1, .int .i64 h.2]
def mv (L : List (Int × Hop × Nat)) (a : Int) : Option Hop := (mfind L a).map (·.2)
theorem mv_app {L : List (Int × Hop × Nat)} {a t : Int} {w : Hop} {c : Nat} : mv (L ++ [(a, w, c)]) t = match mv L t with | some h => some h | none => if t = a then some w else none := by
  induction L with
  | nil => simp only [List.nil_append, mv, mfind]; split <;> rfl
  | cons p L ih =>
    simp only [List.cons_append, mv, mfind] at ih ⊢
    by_cases h : t = p.1
    · rw [if_pos h, if_pos h]; rfl
    · rw [if_neg h, if_neg h]
      simp only [Option.map_map]
      have e : ((fun (q : Nat × Hop) => q.2) ∘ fun (q : Nat × Hop) => (q.1 + 1, q.2)) = fun (q : Nat × Hop) => q.2 := rfl
      rw [e]
      exact ih
def dv : List Cm → Int → Option Hop
  | [], _ => none
  | (t, i, b) :: D, u => if u = t then some (i, b) else dv D u
theorem dv_none {a : Int} : ∀ {D : List Cm} {u : Int}, u ∉ nodes a D → dv D u = none
  | [], _, _ => rfl
  | (t, i, b) :: D, u, h => by
    unfold dv
    rw [if_neg (fun e => h (nodes_cons.2 (.inl e)))]
    exact dv_none fun hm => h (nodes_cons.2 (.inr hm))
theorem wayT_head {t b : Int} {i : Nat} {D : List Cm} : wayT ((t, i, b) :: D) t = (i, b) :: wayT D b := if_pos rfl
theorem wayT_tail {t b e : Int} {i : Nat} {D : List Cm} (h : t ≠ e) : wayT ((t, i, b) :: D) e = wayT D e := if_neg h
theorem dv_head {t b : Int} {i : Nat} {D : List Cm} : dv ((t, i, b) :: D) t = some (i, b) := if_pos rfl
theorem dv_tail {t b u : Int} {i : Nat} {D : List Cm} (h : u ≠ t) : dv ((t, i, b) :: D) u = dv D u := if_neg h
theorem Tr.split {T : Int} {fs : List Fl} {x : List Int} {but a : Int} : ∀ {D : List Cm} {e : Int}, Tr T fs x but a D → e ∈ nodes a D → e ≠ a → ∃ i b D2, Tr T fs x but a D2 ∧ b ∈ nodes a D2 ∧ wayT D e = (i, b) :: wayT D2 b ∧ dv D e = some (i, b) ∧ e ∉ nodes a D2 ∧ (∀ u, u ∈ nodes a D2 → dv D u = dv D2 u) ∧ D2.length < D.length ∧ i < fs.length ∧ 0 < roomR fs x i b ∧ ∀ u, u ∈ nodes a D2 → u ∈ nodes a D
  | [], e, _, he, hne => by
    simp only [nodes, List.map_nil, List.nil_append, List.mem_singleton] at he
    exact absurd he hne
  | (t, i, b) :: D, e, .cons k ht hb hT hi hbut hend ho hr, he, hne => by
    by_cases h : e = t
    · subst h
      refine ⟨i, b, D, k, hb, wayT_head, dv_head, ht, fun u hu => ?_, by simp, hi, hr, fun u hu => nodes_cons.2 (.inr hu)⟩
      exact dv_tail fun h => ht (by rw [← h]; exact hu)
    · rcases nodes_cons.1 he with he | he
      · exact absurd he h
      · obtain ⟨i', b', D2, h1, h2, h3, h4, h5, h6, h7, h8, h9, h10⟩ := k.split he hne
        refine ⟨i', b', D2, h1, h2, by rw [wayT_tail fun k => h k.symm]; exact h3, by rw [dv_tail h]; exact h4, h5, fun u hu => ?_, by simp only [List.length_cons]; omega, h8, h9, fun u hu => nodes_cons.2 (.inr (h10 u hu))⟩
        rw [dv_tail fun hut => ht (by rw [← hut]; exact h10 u hu)]
        exact h6 u hu
end Go.Ax
