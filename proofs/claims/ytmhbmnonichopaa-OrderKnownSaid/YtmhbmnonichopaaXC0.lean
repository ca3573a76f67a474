/-
  What every run of the abstract machine keeps.
-/
import Derived.Test.YtmhbmnonichopaaXB
namespace Go.Ax

namespace T
variable {α β : Type}
theorem all_bind {Q : β → Prop} (x : T α) (f : α → T β) : (x.bind f).all Q ↔ x.all fun a => (f a).all Q := by
  induction x with
  | ret a => exact Iff.rfl
  | fail => exact Iff.rfl
  | ask n k ih => exact and_congr_right fun _ => forall_congr' fun i => imp_congr_right fun _ => ih i
theorem all_some {Q : α → Prop} {x : T α} (h : x.all Q) : ∃ a, Q a := by
  induction x with
  | ret a => exact ⟨a, h⟩
  | fail => exact h.elim
  | ask n k ih => exact ih 0 (h.2 0 h.1)
theorem all_mono {Q R : α → Prop} {x : T α} (h : ∀ a, Q a → R a) (hx : x.all Q) : x.all R := by
  induction x with
  | ret a => exact h a hx
  | fail => exact hx
  | ask n k ih => exact ⟨hx.1, fun i hi => ih i (hx.2 i hi)⟩
/-- of each end, not of a failure -/
def lv (Q : α → Prop) : T α → Prop
  | .ret a => Q a
  | .fail => True
  | .ask n k => ∀ i, i < n → (k i).lv Q
theorem lv_bind {Q : β → Prop} {R : α → Prop} {x : T α} {f : α → T β} (hx : x.lv R) (hf : ∀ a, R a → (f a).lv Q) : (x.bind f).lv Q := by
  induction x with
  | ret a => exact hf a hx
  | fail => trivial
  | ask n k ih => exact fun i hi => ih i (hx i hi)
theorem lv_mono {Q R : α → Prop} {x : T α} (h : ∀ a, Q a → R a) (hx : x.lv Q) : x.lv R := by
  induction x with
  | ret a => exact h a hx
  | fail => trivial
  | ask n k ih => exact fun i hi => ih i (hx i hi)
theorem all_lv {Q R : α → Prop} {x : T α} (h : x.all Q) (k : x.lv R) : x.all fun a => Q a ∧ R a := by
  induction x with
  | ret a => exact ⟨h, k⟩
  | fail => exact h
  | ask n f ih => exact ⟨h.1, fun i hi => ih i (h.2 i hi) (k i hi)⟩
theorem lv_of_all {Q : α → Prop} {x : T α} (h : x.all Q) : x.lv Q := by
  induction x with
  | ret a => exact h
  | fail => trivial
  | ask n f ih => exact fun i hi => ih i (h.2 i hi)
theorem all_ofOpt {Q : α → Prop} {x : Option α} : (T.ofOpt x).all Q ↔ ∃ a, x = some a ∧ Q a := by
  cases x with
  | none => simp [T.ofOpt, all]
  | some a => simp [T.ofOpt, all]
theorem lv_ofOpt {Q : α → Prop} {x : Option α} : (T.ofOpt x).lv Q ↔ ∀ a, x = some a → Q a := by
  cases x with
  | none => simp [T.ofOpt, lv]
  | some a => simp [T.ofOpt, lv]
end T

/-- what an operation writes it has read -/
theorem loc_ups (op : AOp) (e : Env) {bs : List ABlk} {v : AV} {ups : List (Nat × ABlk)} {nw : Option ABlk} (h : (opLoc op e).f bs = some (v, ups, nw)) : ∀ p ∈ ups, p.1 ∈ (opLoc op e).rd := by
  have hval : ∀ (r : Option AV), (Loc.val r).f bs = some (v, ups, nw) → ups = [] := by
    intro r h
    cases r <;> simp [Loc.val] at h
    exact h.2.1
  have hno : ¬ (Loc.no.f bs = some (v, ups, nw)) := by simp [Loc.no]
  cases op <;> simp only [opLoc] at h ⊢
  all_goals
    repeat' split at h
  all_goals first
    | exact (hno h).elim
    | (have := hval _ h; subst this; intro p hp; cases hp; done)
    | ((try simp only at h); (repeat' split at h))
  all_goals first
    | (cases h; done)
    | (simp only [Option.some.injEq, Prod.mk.injEq] at h; obtain ⟨_, rfl, _⟩ := h; intro p hp; simp at hp; done)
    | (simp only [Option.some.injEq, Prod.mk.injEq] at h; obtain ⟨_, rfl, _⟩ := h; intro p hp; simp at hp; subst hp; simp; done)
    | (simp only [Option.map_eq_some_iff] at h; obtain ⟨q, _, h⟩ := h; simp only [Prod.mk.injEq] at h; obtain ⟨_, rfl, _⟩ := h; intro p hp; simp at hp; done)
    | (simp only [Option.map_eq_some_iff] at h; obtain ⟨q, _, h⟩ := h; split at h <;> (simp only [Prod.mk.injEq] at h; obtain ⟨_, rfl, _⟩ := h; intro p hp; simp at hp; try (subst hp; simp)))
    | (simp only [Option.some.injEq, Prod.mk.injEq] at h; obtain ⟨_, rfl, _⟩ := h; intro p hp; rw [if_pos (by assumption)]; simp at hp; subst hp; simp; done)
    | (simp only [Option.some.injEq, Prod.mk.injEq] at h; obtain ⟨_, rfl, _⟩ := h; intro p hp; rw [if_neg (by assumption)]; simp at hp; subst hp; simp; done)
    | (simp only [Option.some.injEq, Prod.mk.injEq] at h; obtain ⟨_, rfl, _⟩ := h; intro p hp; rw [if_pos (by assumption), if_neg (by assumption)]; rw [cond_eq_ite] at hp; split at hp <;> simp at hp; subst hp; simp; done)

/-- what a run keeps of what lay below n0 -/
structure Inv (n0 : Nat) (h h' : H) : Prop where
  nx : h.next ≤ h'.next
  wm : h'.wmin ≤ h.wmin
  fresh : ∀ b, b < n0 → h.get b = none → h'.get b = none
  same : ∀ b, b < n0 → b < h'.wmin → h'.get b = h.get b
theorem Inv.refl (n0 : Nat) (h : H) : Inv n0 h h := ⟨Nat.le_refl _, Nat.le_refl _, fun _ _ h => h, fun _ _ _ => rfl⟩
theorem Inv.trans {n0 : Nat} {a b c : H} (h : Inv n0 a b) (k : Inv n0 b c) : Inv n0 a c :=
  ⟨Nat.le_trans h.nx k.nx, Nat.le_trans k.wm h.wm, fun x hx hn => k.fresh x hx (h.fresh x hx hn), fun x hx hw => (k.same x hx hw).trans (h.same x hx (Nat.lt_of_lt_of_le hw k.wm))⟩
theorem Inv.mono {n0 n1 : Nat} {a b : H} (hle : n1 ≤ n0) (h : Inv n0 a b) : Inv n1 a b := ⟨h.nx, h.wm, fun x hx => h.fresh x (Nat.lt_of_lt_of_le hx hle), fun x hx => h.same x (Nat.lt_of_lt_of_le hx hle)⟩
theorem Inv.put {n0 : Nat} {h : H} {b : Nat} (x : ABlk) (hb : n0 ≤ b ∨ (h.get b).isSome = true) : Inv n0 h (h.put b x) := by
  refine ⟨Nat.le_refl _, Nat.min_le_left _ _, fun k hk hn => ?_, fun k hk hw => ?_⟩
  · rw [H.get_put, if_neg ?_]
    · exact hn
    · intro e; subst e; rcases hb with hb | hb
      · omega
      · rw [hn] at hb; cases hb
  · rw [H.get_put, if_neg ?_]
    intro e; subst e
    have : (h.put k x).wmin ≤ k := Nat.min_le_right _ _
    omega
theorem Inv.new {n0 : Nat} (h : H) {b : Nat} (x : ABlk) (hb : n0 ≤ b) : Inv n0 h (h.new b x) := by
  refine ⟨Nat.le_max_left _ _, Nat.le_refl _, fun k hk hn => ?_, fun k hk hw => ?_⟩
  · rw [H.get_new, if_neg (by omega)]; exact hn
  · rw [H.get_new, if_neg (by omega)]
theorem Inv.puts {n0 : Nat} : ∀ (ups : List (Nat × ABlk)) (h : H), (∀ p ∈ ups, (h.get p.1).isSome = true) → Inv n0 h (h.puts ups)
  | [], h, _ => .refl n0 h
  | (b, x) :: l, h, hu => by
    refine (Inv.put x (.inr (hu (b, x) (by simp)))).trans (Inv.puts l _ fun p hp => ?_)
    rw [H.get_put]; split
    · rfl
    · exact hu p (by simp [hp])
theorem getAll_isSome : ∀ {l : List Nat} {h : H} {bs : List ABlk}, getAll h l = some bs → ∀ b ∈ l, (h.get b).isSome = true
  | [], _, _, _, b, hb => by cases hb
  | c :: l, h, bs, hg, b, hb => by
    have h0 : getAll h (c :: l) = match h.get c, getAll h l with | some x, some xs => some (x :: xs) | _, _ => none := rfl
    rw [h0] at hg
    split at hg
    · rename_i x xs hx hxs
      rcases List.mem_cons.1 hb with rfl | hb
      · rw [hx]; rfl
      · exact getAll_isSome hxs b hb
    · cases hg
theorem loc_run_inv {l : Loc} {aid : Nat} {h h' : H} {v : AV} {fp : FP} (hr : l.run aid h = some (v, h', fp)) :
    ∃ bs v0 ups nw, getAll h l.rd = some bs ∧ l.f bs = some (v0, ups, nw) ∧
      ((nw = none ∧ v = v0 ∧ h' = h.puts ups ∧ fp = .loc l.rd (ups.map (·.1)) none) ∨ (∃ x, nw = some x ∧ v = atNew aid v0 ∧ h' = (h.puts ups).new aid x ∧ fp = .loc l.rd (ups.map (·.1)) (some aid))) := by
  unfold Loc.run at hr
  split at hr
  · cases hr
  · rename_i bs hbs
    split at hr
    · cases hr
    · rename_i v0 ups hf
      simp only [Option.some.injEq, Prod.mk.injEq] at hr
      exact ⟨bs, v0, ups, none, hbs, hf, .inl ⟨rfl, hr.1.symm, hr.2.1.symm, hr.2.2.symm⟩⟩
    · rename_i v0 ups x hf
      simp only [Option.some.injEq, Prod.mk.injEq] at hr
      exact ⟨bs, v0, ups, some x, hbs, hf, .inr ⟨x, rfl, hr.1.symm, hr.2.1.symm, hr.2.2.symm⟩⟩
theorem inv_loc {n0 : Nat} {op : AOp} {e : Env} {aid : Nat} {h h' : H} {v : AV} {fp : FP} (ha : n0 ≤ aid) (hr : (opLoc op e).run aid h = some (v, h', fp)) : Inv n0 h h' := by
  obtain ⟨bs, v0, ups, nw, hg, hf, hc⟩ := loc_run_inv hr
  have hp : Inv n0 h (h.puts ups) := Inv.puts ups h fun p hp => getAll_isSome hg _ (loc_ups op e hf p hp)
  rcases hc with ⟨_, _, rfl, _⟩ | ⟨x, _, _, rfl, _⟩
  · exact hp
  · exact hp.trans (Inv.new _ x ha)

theorem kind_cases (o : AOper) (e : Env) : o.kind e = .skip ∨ o.kind e = .bad ∨ (∃ op, o.kind e = .loc (opLoc op e)) ∨ (∃ f l, o.kind e = .call f l) ∨ (∃ it, o.kind e = .next it) := by
  have h : (∃ op, o.op.kind e = .loc (opLoc op e)) ∨ (∃ f l, o.op.kind e = .call f l) ∨ (∃ it, o.op.kind e = .next it) := by
    cases ho : o.op <;> first | exact .inr (.inl ⟨_, _, rfl⟩) | exact .inr (.inr ⟨_, rfl⟩) | exact .inl ⟨_, rfl⟩
  unfold AOper.kind
  split
  · exact .inr (.inr h)
  · split
    · rw [cond_eq_ite]; split
      · exact .inr (.inr h)
      · exact .inl rfl
    · exact .inr (.inl rfl)

abbrev Cf := AV → List AV → H → T (AV × H)

theorem nextF_inv (it : AV) (h : H) : (nextF it h).lv fun r => Inv h.next h r.2 := by
  unfold nextF
  split
  · split
    · exact .refl _ _
    · rename_i r m since seen last hr
      split
      · split
        · trivial
        · intro i hi
          show T.lv _ (match (candidates _ since seen)[i]? with | some (some x) => _ | some none => _ | none => _)
          split
          · exact Inv.put _ (.inr (by rw [hr]; rfl))
          · exact .refl _ _
          · trivial
      · trivial
    · trivial
  · trivial

theorem kind_inv {call : Cf} (hcall : ∀ f l h, (call f l h).lv fun r => Inv h.next h r.2) {n0 aid : Nat} (o : AOper) (e : Env) (h : H) (ha : n0 ≤ aid) (hn : n0 ≤ h.next) : ((o.kind e).run call aid h).lv fun r => Inv n0 h r.2.1 := by
  rcases kind_cases o e with hk | hk | ⟨op, hk⟩ | ⟨f, l, hk⟩ | ⟨it, hk⟩ <;> rw [hk]
  · exact .refl _ _
  · trivial
  · refine T.lv_ofOpt.2 ?_
    rintro ⟨v, h', fp⟩ hr
    exact inv_loc ha hr
  · refine T.lv_bind (hcall f l _) ?_
    rintro ⟨v, h'⟩ hi
    have hi : Inv h.next { h with wmin := h.next } h' := hi
    refine ⟨hi.nx, Nat.min_le_left _ _, fun b hb hb' => hi.fresh b (by show b < h.next; omega) hb', fun b hb hw => hi.same b (by show b < h.next; omega) (Nat.lt_of_lt_of_le hw (Nat.min_le_right _ _))⟩
  · refine T.lv_bind (nextF_inv it h) ?_
    rintro ⟨v, h'⟩ hi
    exact hi.mono hn

theorem stepG_inv {call : Cf} (hcall : ∀ f l h, (call f l h).lv fun r => Inv h.next h r.2) {n0 aid : Nat} (o : AOper) (s : St) (ha : n0 ≤ aid) (hn : n0 ≤ s.2.next) : (stepG call aid o s).lv fun r => Inv n0 s.2 r.1.2 := by
  refine T.lv_bind (kind_inv hcall o s.1 s.2 ha hn) ?_
  rintro ⟨v, h', fp⟩ hi
  exact hi

theorem runSeq_inv {call : Cf} (hcall : ∀ f l h, (call f l h).lv fun r => Inv h.next h r.2) : ∀ (ops : List AOper) (s : St), (runSeq call ops s).lv fun r => Inv s.2.next s.2 r.2
  | [], s => .refl _ _
  | o :: l, s => by
    refine T.lv_bind (stepG_inv hcall o s (Nat.le_refl _) (Nat.le_refl _)) ?_
    rintro ⟨s', fp⟩ hi
    refine T.lv_mono ?_ (runSeq_inv hcall l s')
    intro r hr
    exact hi.trans (hr.mono hi.nx)

theorem step1_inv {call : Cf} (hcall : ∀ f l h, (call f l h).lv fun r => Inv h.next h r.2) (b0 : Nat) (ops : List AOper) (uno : List (Nat × Nat)) (i : Nat) (s : St) (fs : PT FP) (hn : b0 ≤ s.2.next) : (step1 call b0 ops uno i s fs).lv fun r => Inv b0 s.2 r.1.2 := by
  unfold step1
  split
  · trivial
  · refine T.lv_bind (stepG_inv hcall _ s (by omega : b0 ≤ b0 + i) hn) ?_
    rintro ⟨s', fp⟩ hi
    show T.lv _ (bif okWith uno fs i fp then _ else _)
    cases okWith uno fs i fp
    · trivial
    · exact hi
theorem runFP_inv {call : Cf} (hcall : ∀ f l h, (call f l h).lv fun r => Inv h.next h r.2) (b0 : Nat) (ops : List AOper) (uno : List (Nat × Nat)) : ∀ (l : List Nat) (s : St) (fs : PT FP), b0 ≤ s.2.next → (runFP call b0 ops uno l s fs).lv fun r => Inv b0 s.2 r.2
  | [], s, _, _ => .refl _ _
  | i :: l, s, fs, hn => by
    refine T.lv_bind (step1_inv hcall b0 ops uno i s fs hn) ?_
    rintro ⟨s', fs'⟩ hi
    refine T.lv_mono ?_ (runFP_inv hcall b0 ops uno l s' fs' (Nat.le_trans hn hi.nx))
    intro r hr
    exact hi.trans hr
theorem runDraw_inv {call : Cf} (hcall : ∀ f l h, (call f l h).lv fun r => Inv h.next h r.2) (ops : List AOper) (uno : List (Nat × Nat)) (s : St) : (runDraw call ops uno s).lv fun r => Inv s.2.next s.2 r.2 := by
  refine T.lv_mono ?_ (runFP_inv hcall s.2.next ops uno _ _ _ (Nat.le_add_right _ _))
  intro r hr
  exact ⟨Nat.le_trans (Nat.le_add_right _ _) hr.nx, hr.wm, hr.fresh, hr.same⟩

theorem roundEnd_inv (l : Nat) (x : EX) (h : H) : (roundEnd l x h).lv fun r => Inv h.next h r.2 := by
  unfold roundEnd
  split
  · rename_i hl
    have hs : (h.get l).isSome = true := by rw [hl]; rfl
    split <;> exact Inv.put _ (.inr hs)
  · trivial

variable {tbl : Nat → Option AFn}

theorem callF_inv {ex : Ex} (hex : ∀ rnd c e h, (ex rnd c e h).lv fun r => Inv h.next h r.2.2) (f : AV) (l : List AV) (h : H) : (callF tbl ex f l h).lv fun r => Inv h.next h r.2 := by
  unfold callF
  split
  · split
    · trivial
    · rw [cond_eq_ite]; split
      · refine T.lv_bind (hex _ _ _ _) ?_
        rintro ⟨x, e, h'⟩ hi
        have hi : Inv h.next h h' := hi
        cases x with
        | exit _ => trivial
        | _ =>
          refine T.lv_ofOpt.2 ?_
          intro a ha
          simp only [Option.map_eq_some_iff] at ha
          obtain ⟨vs, _, rfl⟩ := ha
          exact hi
      · trivial
  · split
    · rename_i l pend env ps asg body hl
      split
      · trivial
      · refine T.lv_bind (hex _ _ _ _) ?_
        rintro ⟨x, e, h1⟩ hi
        have hi : Inv h.next h h1 := hi
        cases x with
        | normal =>
          simp only
          split
          · rename_i hl1
            refine T.lv_bind (hex _ _ _ _) ?_
            rintro ⟨x2, e2, h2⟩ hi2
            have hi2 : Inv (h1.put _ _).next (h1.put _ _) h2 := hi2
            have h12 : Inv h.next h h2 := (hi.trans (Inv.put _ (.inr (by rw [hl1]; rfl)))).trans (hi2.mono hi.nx)
            refine T.lv_mono ?_ (roundEnd_inv _ x2 h2)
            intro r hr
            exact h12.trans (hr.mono h12.nx)
          · trivial
        | _ => trivial
    · trivial
  · trivial

theorem exec_inv : ∀ (n : Nat) (rnd : Option Nat) (c : AC) (e : Env) (h : H), (exec tbl n rnd c e h).lv fun r => Inv h.next h r.2.2
  | 0, _, _, _, _ => trivial
  | n + 1, rnd, c, e, h => by
    have ih := exec_inv n
    have hcall := callF_inv (tbl := tbl) ih
    show (step tbl (exec tbl n) rnd c e h).lv _
    cases c with
    | skip => exact .refl _ _
    | seq a b =>
      refine T.lv_bind (ih rnd a e h) ?_
      rintro ⟨x, e', h'⟩ hi
      cases x with
      | normal => exact T.lv_mono (fun r hr => hi.trans (hr.mono hi.nx)) (ih rnd b e' h')
      | _ => exact hi
    | cond c a b =>
      simp only [step]
      split
      · rename_i t _
        cases t
        · exact ih rnd b e h
        · exact ih rnd a e h
      · trivial
    | block id b =>
      refine T.lv_bind (ih rnd b e h) ?_
      rintro ⟨x, e', h'⟩ hi
      cases x with
      | exit id' =>
        simp only [cond_eq_ite]
        split <;> exact hi
      | _ => exact hi
    | loop b =>
      refine T.lv_bind (ih rnd b e h) ?_
      rintro ⟨x, e', h'⟩ hi
      cases x with
      | normal => exact T.lv_mono (fun r hr => hi.trans (hr.mono hi.nx)) (ih rnd _ e' h')
      | _ => exact hi
    | scope b => exact ih rnd b e h
    | exit id => exact .refl _ _
    | ret => exact .refl _ _
    | region ops =>
      refine T.lv_bind (runSeq_inv hcall ops (e, h)) ?_
      intro s hi
      exact hi
    | draw ops uno =>
      refine T.lv_bind (runDraw_inv hcall ops uno (e, h)) ?_
      intro s hi
      exact hi
    | rangeF f ps asg body =>
      simp only [step]
      split
      · trivial
      · refine T.lv_bind (hcall _ _ _) ?_
        rintro ⟨v, h'⟩ hi
        have hi0 : Inv h.next h h' := (Inv.new h _ (Nat.le_refl _)).trans (hi.mono (Nat.le_max_left _ _))
        have hput : ∀ x, Inv h.next h (h'.put h.next x) := fun x => hi0.trans (Inv.put x (.inl (Nat.le_refl _)))
        simp only
        split
        · trivial
        · split
          · exact hput _
          · exact T.lv_mono (fun r hr => (hput _).trans (hr.mono hi0.nx)) (ih rnd _ _ _)
        · trivial
    | bad => trivial
end Go.Ax
