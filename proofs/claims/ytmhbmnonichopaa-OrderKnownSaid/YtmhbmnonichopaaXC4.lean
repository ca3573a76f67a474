/-
  In a region whose order is drawn: an operation that is ready may be taken first.
-/
import Derived.Test.YtmhbmnonichopaaXC3
namespace Go.Ax
variable {call : Cf}

/-- no look is needed: both quiet by their kind -/
def Still (o o' : AOper) : Prop := (o.op.isPure || o'.op.isPure || (o.op.isRead && o'.op.isRead)) = true

theorem compat_none {f g : FP} (h : f = .loc [] [] none ∨ g = .loc [] [] none) : f.compat g = true := by
  rcases h with rfl | rfl
  · simp [FP.compat, FP.none]
  · simp [FP.compat, FP.none]
theorem compat_read (l l' : List Nat) : (FP.loc l [] none).compat (.loc l' [] none) = true := by
  unfold FP.compat
  simp [apartL]

theorem stepG_fp {P : FP → Prop} {o : AOper} {a : Nat} {s : St} (h : ((o.kind s.1).run call a s.2).lv fun r => P r.2.2) : (stepG call a o s).lv fun r => P r.2 :=
  T.lv_bind h fun r hr => hr

/-- what a step leaves unborn -/
theorem kind_out (hi : CInv call) (o : AOper) (e : Env) {a c : Nat} {h : H} (ho : Out c h) (hne : c ≠ a) : ((o.kind e).run call a h).lv fun r => Out c r.2.1 := by
  rcases kind_norm call o e with hb | ⟨l, hl, hr⟩ | ⟨f, args, hk⟩ | ⟨it, hk⟩
  · rw [hb]; trivial
  · rw [hr]
    refine T.lv_ofOpt.2 ?_
    rintro ⟨v, h', fp⟩ hrun
    obtain ⟨bs, v0, ups, nw, hg, hf, he⟩ := loc_run_iff.1 hrun
    simp only [Prod.mk.injEq] at he
    obtain ⟨rfl, rfl, rfl⟩ := he
    have hc : c ∉ ups.map (·.1) := by
      intro hm
      obtain ⟨p, hp, rfl⟩ := List.mem_map.1 hm
      have := getAll_isSome hg _ (hl _ _ _ _ hf p hp)
      rw [ho.1] at this; cases this
    refine ⟨by rw [upd_get hc (.inr hne)]; exact ho.1, ?_⟩
    cases nw with
    | none => show c < (h.puts ups).next; rw [H.next_puts]; exact ho.2
    | some x => show c < max (h.puts ups).next (a + 1); rw [H.next_puts]; have := ho.2; omega
  · rw [hk, run_call]
    refine T.lv_bind (hi f args _) ?_
    rintro ⟨v, h'⟩ hv
    have h1 : Out c h' := Out.inv (h := { h with wmin := h.next }) ho hv
    exact h1
  · rw [hk, run_next]
    refine T.lv_bind (nextF_inv it h) ?_
    rintro ⟨v, h'⟩ hv
    exact ho.inv hv

section
variable {base : Nat} {ops : List AOper} {uno : List (Nat × Nat)}

/-- the j-th, which stands before the i-th, has no order with it -/
def Free (ops : List AOper) (uno : List (Nat × Nat)) (j i : Nat) : Prop :=
  j < i ∧ ∀ o o', ops[j]? = some o → ops[i]? = some o' → Apart o o' ∧ ((j, i) ∈ uno ∨ Still o o')

/-- what is still to run, and has left no trace -/
def Todo (base : Nat) (L : List Nat) (s : St) (fs : PT FP) : Prop := ∀ k ∈ L, Out (base + k) s.2 ∧ fs.get k = none

theorem okWith_spec {fs : PT FP} {i : Nat} {fp : FP} : okWith uno fs i fp = true ↔ ∀ p ∈ uno, (p.1 = i → ∀ g, fs.get p.2 = some g → fp.compat g = true) ∧ (p.2 = i → ∀ g, fs.get p.1 = some g → g.compat fp = true) := by
  unfold okWith
  rw [List.all_eq_true]
  refine forall_congr' fun p => imp_congr_right fun _ => ?_
  obtain ⟨a, b⟩ := p
  simp only [Bool.and_eq_true, cond_eq_ite, Nat.beq_eq]
  refine and_congr ?_ ?_
  · by_cases h : a = i
    · rw [if_pos h]
      cases hb : fs.get b <;> simp [h]
    · rw [if_neg h]; simp [h]
  · by_cases h : b = i
    · rw [if_pos h]
      cases hb : fs.get a <;> simp [h]
    · rw [if_neg h]; simp [h]

theorem step1_all {i : Nat} {s : St} {fs : PT FP} {Q : St × PT FP → Prop} : (step1 call base ops uno i s fs).all Q ↔
    ∃ o, ops[i]? = some o ∧ (stepG call (base + i) o s).all fun r => okWith uno fs i r.2 = true ∧ Q (r.1, fs.set i r.2) := by
  unfold step1
  cases ho : ops[i]? with
  | none => simp [T.all]
  | some o =>
    simp only [Option.some.injEq, exists_eq_left']
    rw [T.all_bind]
    have : ∀ r : St × FP, (T.all Q (match r with | (s, fp) => bif okWith uno fs i fp then T.ret (s, fs.set i fp) else T.fail)) ↔ (okWith uno fs i r.2 = true ∧ Q (r.1, fs.set i r.2)) := by
      rintro ⟨s', fp⟩
      show T.all Q (bif okWith uno fs i fp then T.ret (s', fs.set i fp) else T.fail) ↔ _
      cases hk : okWith uno fs i fp <;> simp [T.all, hk]
    constructor
    · exact T.all_mono fun r => (this r).1
    · exact T.all_mono fun r => (this r).2

theorem swap1 (hi : CInv call) (hfr : CFr call) {j i : Nat} {s : St} {fs : PT FP} (hf : Free ops uno j i) (ht : Todo base [j, i] s fs) {R : St × PT FP → Prop}
    (H1 : (step1 call base ops uno j s fs).all fun p => (step1 call base ops uno i p.1 p.2).all R) :
    (step1 call base ops uno i s fs).all fun p => (step1 call base ops uno j p.1 p.2).all R := by
  obtain ⟨o, ho, H1⟩ := step1_all.1 H1
  have hne : j ≠ i := Nat.ne_of_lt hf.1
  have ⟨hoj, hfj⟩ := ht j (by simp)
  have ⟨hoi, hfi⟩ := ht i (by simp)
  -- the second operation is there
  obtain ⟨⟨s0, f0⟩, _, hx⟩ := T.all_some H1
  obtain ⟨o', ho', _⟩ := step1_all.1 hx
  obtain ⟨hap, hst⟩ := hf.2 o o' ho ho'
  refine step1_all.2 ⟨o', ho', ?_⟩
  have H2 : (stepG call (base + j) o s).all fun r => (stepG call (base + i) o' r.1).all fun r' => r.2.compat r'.2 = true ∧ (okWith uno fs i r'.2 = true ∧ okWith uno (fs.set i r'.2) j r.2 = true ∧ R (r'.1, (fs.set i r'.2).set j r.2)) := by
    have hl : (stepG call (base + j) o s).lv fun r => Still o o' → o.op.isPure = true → r.2 = .loc [] [] none := by
      by_cases hp : o.op.isPure = true
      · exact T.lv_mono (fun r hr _ _ => hr) (stepG_fp (P := fun f => f = .loc [] [] none) (fp_pure hp _ _))
      · exact T.lv_mono (fun r _ _ h => absurd h hp) (lvTrue _)
    have hl2 : (stepG call (base + j) o s).lv fun r => o.op.isRead = true → ∃ l, r.2 = .loc l [] none := by
      by_cases hp : o.op.isRead = true
      · exact T.lv_mono (fun r hr _ => hr) (stepG_fp (P := fun f => ∃ l, f = .loc l [] none) (fp_read hp _ _))
      · exact T.lv_mono (fun r _ h => absurd h hp) (lvTrue _)
    refine T.all_mono ?_ (T.all_lv (T.all_lv H1 hl) hl2)
    rintro ⟨s1, f1⟩ ⟨⟨⟨hok, hx⟩, hp1⟩, hr1⟩
    obtain ⟨o'', ho'', hx⟩ := step1_all.1 hx
    rw [ho'] at ho''; cases ho''
    have hl' : (stepG call (base + i) o' s1).lv fun r => o'.op.isPure = true → r.2 = .loc [] [] none := by
      by_cases hp : o'.op.isPure = true
      · exact T.lv_mono (fun r hr _ => hr) (stepG_fp (P := fun f => f = .loc [] [] none) (fp_pure hp _ _))
      · exact T.lv_mono (fun r _ h => absurd h hp) (lvTrue _)
    have hl2' : (stepG call (base + i) o' s1).lv fun r => o'.op.isRead = true → ∃ l, r.2 = .loc l [] none := by
      by_cases hp : o'.op.isRead = true
      · exact T.lv_mono (fun r hr _ => hr) (stepG_fp (P := fun f => ∃ l, f = .loc l [] none) (fp_read hp _ _))
      · exact T.lv_mono (fun r _ h => absurd h hp) (lvTrue _)
    refine T.all_mono ?_ (T.all_lv (T.all_lv hx hl') hl2')
    rintro ⟨s2, f2⟩ ⟨⟨⟨hok2, hR⟩, hp2⟩, hr2⟩
    have hcomp : f1.compat f2 = true := by
      rcases hst with hu | hst
      · exact ((okWith_spec.1 hok2) (j, i) hu).2 rfl f1 (PT.get_set_same _ _ _)
      · unfold Still at hst
        simp only [Bool.or_eq_true, Bool.and_eq_true] at hst
        rcases hst with (h | h) | ⟨h, h'⟩
        · exact compat_none (.inl (hp1 (by unfold Still; simp [h]) h))
        · exact compat_none (.inr (hp2 h))
        · obtain ⟨l, rfl⟩ := hr1 h
          obtain ⟨l', rfl⟩ := hr2 h'
          exact compat_read l l'
    refine ⟨hcomp, okWith_spec.2 fun p hp => ⟨fun h g hg => ?_, fun h g hg => ?_⟩, okWith_spec.2 fun p hp => ⟨fun h g hg => ?_, fun h g hg => ?_⟩, ?_⟩
    · exact ((okWith_spec.1 hok2) p hp).1 h g (by
        rw [PT.get_set, if_neg]
        · exact hg
        · intro e; rw [e, hfj] at hg; cases hg)
    · exact ((okWith_spec.1 hok2) p hp).2 h g (by
        rw [PT.get_set, if_neg]
        · exact hg
        · intro e; rw [e, hfj] at hg; cases hg)
    · rw [PT.get_set] at hg
      split at hg
      · rename_i e
        cases hg
        exact ((okWith_spec.1 hok2) p hp).2 e f1 (by rw [h]; exact PT.get_set_same _ _ _)
      · exact ((okWith_spec.1 hok) p hp).1 h g hg
    · rw [PT.get_set] at hg
      split at hg
      · rename_i e
        cases hg
        exact ((okWith_spec.1 hok2) p hp).1 e f1 (by rw [h]; exact PT.get_set_same _ _ _)
      · exact ((okWith_spec.1 hok) p hp).2 h g hg
    · rw [PT.set_comm _ _ _ hne]
      exact hR
  refine T.all_mono ?_ (swapG (R := fun st f1 f2 => okWith uno fs i f2 = true ∧ okWith uno (fs.set i f2) j f1 = true ∧ R (st, (fs.set i f2).set j f1)) hi hfr hap (by omega) hoi H2)
  rintro ⟨s1, f2⟩ hx
  obtain ⟨_, hok, _⟩ := T.all_some hx
  refine ⟨hok, step1_all.2 ⟨o, ho, ?_⟩⟩
  exact T.all_mono (fun r hr => hr.2) hx

theorem runFP_cons {i : Nat} {l : List Nat} {s : St} {fs : PT FP} {Q : St → Prop} : (runFP call base ops uno (i :: l) s fs).all Q ↔ (step1 call base ops uno i s fs).all fun p => (runFP call base ops uno l p.1 p.2).all Q := T.all_bind _ _

theorem step1_todo (hi : CInv call) {j : Nat} {L : List Nat} {s : St} {fs : PT FP} (ht : Todo base L s fs) (hj : ∀ k ∈ L, k ≠ j) : (step1 call base ops uno j s fs).lv fun p => Todo base L p.1 p.2 := by
  unfold step1
  cases ho : ops[j]? with
  | none => trivial
  | some o =>
    have hk : ∀ k ∈ L, (stepG call (base + j) o s).lv fun r => Out (base + k) r.1.2 := fun k hk =>
      T.lv_bind (kind_out hi o s.1 (ht k hk).1 (by have := hj k hk; omega)) fun r hr => hr
    have hall : (stepG call (base + j) o s).lv fun r => ∀ k ∈ L, Out (base + k) r.1.2 := by
      generalize stepG call (base + j) o s = X at hk
      induction X with
      | ret a => exact fun k h => hk k h
      | fail => trivial
      | ask n f ih => exact fun i h => ih i fun k hk' => hk k hk' i h
    refine T.lv_bind hall ?_
    rintro ⟨s', fp⟩ hx
    show T.lv _ (bif okWith uno fs j fp then _ else _)
    cases okWith uno fs j fp
    · trivial
    · exact fun k hk => ⟨hx k hk, by rw [PT.get_set, if_neg (hj k hk)]; exact (ht k hk).2⟩

/-- one that is free of all before it may come first -/
theorem take_first (hi : CInv call) (hfr : CFr call) {i : Nat} {B : List Nat} {Q : St → Prop} : ∀ (A : List Nat) (s : St) (fs : PT FP), (∀ j ∈ A, Free ops uno j i) → (A ++ i :: B).Nodup → Todo base (A ++ i :: B) s fs →
    (runFP call base ops uno (A ++ i :: B) s fs).all Q → (step1 call base ops uno i s fs).all fun p => (runFP call base ops uno (A ++ B) p.1 p.2).all Q
  | [], s, fs, _, _, _, H => runFP_cons.1 H
  | j :: A, s, fs, hf, hn, ht, H => by
    have H := runFP_cons.1 (show (runFP call base ops uno (j :: (A ++ i :: B)) s fs).all Q from H)
    have hn' : (A ++ i :: B).Nodup ∧ ∀ k ∈ A ++ i :: B, k ≠ j := by
      have := List.nodup_cons.1 (show (j :: (A ++ i :: B)).Nodup from hn)
      exact ⟨this.2, fun k hk e => this.1 (e ▸ hk)⟩
    have H2 : (step1 call base ops uno j s fs).all fun p => (step1 call base ops uno i p.1 p.2).all fun p => (runFP call base ops uno (A ++ B) p.1 p.2).all Q := by
      refine T.all_mono ?_ (T.all_lv H (step1_todo hi (L := A ++ i :: B) (fun k hk => ht k (List.mem_cons_of_mem _ hk)) hn'.2))
      rintro ⟨s', fs'⟩ ⟨hx, ht'⟩
      exact take_first hi hfr A s' fs' (fun k hk => hf k (List.mem_cons_of_mem _ hk)) hn'.1 ht' hx
    refine T.all_mono ?_ (swap1 hi hfr (hf j (by simp)) (fun k hk => ht k (by simp at hk ⊢; rcases hk with rfl | rfl <;> simp)) H2)
    rintro ⟨s', fs'⟩ hx
    exact runFP_cons.2 hx
end
end Go.Ax
