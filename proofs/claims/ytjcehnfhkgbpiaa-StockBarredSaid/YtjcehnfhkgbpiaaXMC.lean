/-
  What every run of the abstract machine keeps.
  A block that a run does not know changes nothing in it.
  Two operations that have no order may be exchanged.
  Two operations that have no order may be exchanged: whole steps; and one that is ready may be taken first.
  In a region whose order is drawn: an operation that is ready may be taken first.
-/
import Derived.Test.YtjcehnfhkgbpiaaXMB
set_option linter.unusedVariables false
set_option linter.unusedSimpArgs false
section
namespace Go.Ax
namespace T
variable {α β : Type}
theorem all_bind {Q : β → Prop} (x : T α) (f : α → T β) : (x.bind f).all Q ↔ x.all fun a => (f a).all Q := by
  induction x with
  | ret a => exact Iff.rfl
  | fail => exact Iff.rfl
  | ask n k ih => exact and_congr_right fun _ => forall_congr' fun i => imp_congr_right fun _ => ih i
theorem all_some {Q : α → Prop} {x : T α} (h : x.all Q) : ∃ a, Q a := by
  induction x with
  | ret a => exact ⟨a, h⟩
  | fail => exact h.elim
  | ask n k ih => exact ih 0 (h.2 0 h.1)
theorem all_mono {Q R : α → Prop} {x : T α} (h : ∀ a, Q a → R a) (hx : x.all Q) : x.all R := by
  induction x with
  | ret a => exact h a hx
  | fail => exact hx
  | ask n k ih => exact ⟨hx.1, fun i hi => ih i (hx.2 i hi)⟩
def lv (Q : α → Prop) : T α → Prop
  | .ret a => Q a
  | .fail => True
  | .ask n k => ∀ i, i < n → (k i).lv Q
theorem lv_bind {Q : β → Prop} {R : α → Prop} {x : T α} {f : α → T β} (hx : x.lv R) (hf : ∀ a, R a → (f a).lv Q) : (x.bind f).lv Q := by
  induction x with
  | ret a => exact hf a hx
  | fail => trivial
  | ask n k ih => exact fun i hi => ih i (hx i hi)
theorem lv_mono {Q R : α → Prop} {x : T α} (h : ∀ a, Q a → R a) (hx : x.lv Q) : x.lv R := by
  induction x with
  | ret a => exact h a hx
  | fail => trivial
  | ask n k ih => exact fun i hi => ih i (hx i hi)
theorem all_lv {Q R : α → Prop} {x : T α} (h : x.all Q) (k : x.lv R) : x.all fun a => Q a ∧ R a := by
  induction x with
  | ret a => exact ⟨h, k⟩
  | fail => exact h
  | ask n f ih => exact ⟨h.1, fun i hi => ih i (h.2 i hi) (k i hi)⟩
theorem all_ofOpt {Q : α → Prop} {x : Option α} : (T.ofOpt x).all Q ↔ ∃ a, x = some a ∧ Q a := by
  cases x with
  | none => simp [T.ofOpt, all]
  | some a => simp [T.ofOpt, all]
theorem lv_ofOpt {Q : α → Prop} {x : Option α} : (T.ofOpt x).lv Q ↔ ∀ a, x = some a → Q a := by
  cases x with
  | none => simp [T.ofOpt, lv]
  | some a => simp [T.ofOpt, lv]
end T
theorem loc_ups (op : AOp) (e : Env) {bs : List ABlk} {v : AV} {ups : List (Nat × ABlk)} {nw : Option ABlk} (h : (opLoc op e).f bs = some (v, ups, nw)) : ∀ p ∈ ups, p.1 ∈ (opLoc op e).rd := by
  have hval : ∀ (r : Option AV), (Loc.val r).f bs = some (v, ups, nw) → ups = [] := by
    intro r h
    cases r <;> simp [Loc.val] at h
    exact h.2.1
  have hno : ¬ (Loc.no.f bs = some (v, ups, nw)) := by simp [Loc.no]
  cases op <;> simp only [opLoc] at h ⊢
  all_goals
    repeat' split at h
  all_goals first
    | exact (hno h).elim
    | (have := hval _ h; subst this; intro p hp; cases hp; done)
    | ((try simp only at h); (repeat' split at h))
  all_goals first
    | (cases h; done)
    | (simp only [Option.some.injEq, Prod.mk.injEq] at h; obtain ⟨_, rfl, _⟩ := h; intro p hp; simp at hp; done)
    | (simp only [Option.some.injEq, Prod.mk.injEq] at h; obtain ⟨_, rfl, _⟩ := h; intro p hp; simp at hp; subst hp; simp; done)
    | (simp only [Option.map_eq_some_iff] at h; obtain ⟨q, _, h⟩ := h; simp only [Prod.mk.injEq] at h; obtain ⟨_, rfl, _⟩ := h; intro p hp; simp at hp; done)
    | (simp only [Option.map_eq_some_iff] at h; obtain ⟨q, _, h⟩ := h; split at h <;> (simp only [Prod.mk.injEq] at h; obtain ⟨_, rfl, _⟩ := h; intro p hp; simp at hp; try (subst hp; simp)))
    | (simp only [Option.some.injEq, Prod.mk.injEq] at h; obtain ⟨_, rfl, _⟩ := h; intro p hp; rw [if_pos (by assumption)]; simp at hp; subst hp; simp; done)
    | (simp only [Option.some.injEq, Prod.mk.injEq] at h; obtain ⟨_, rfl, _⟩ := h; intro p hp; rw [if_neg (by assumption)]; simp at hp; subst hp; simp; done)
    | (simp only [Option.some.injEq, Prod.mk.injEq] at h; obtain ⟨_, rfl, _⟩ := h; intro p hp; rw [if_pos (by assumption), if_neg (by assumption)]; rw [cond_eq_ite] at hp; split at hp <;> simp at hp; subst hp; simp; done)
structure Inv (n0 : Nat) (h h' : H) : Prop where
  nx : h.next ≤ h'.next
  wm : h'.wmin ≤ h.wmin
  fresh : ∀ b, b < n0 → h.get b = none → h'.get b = none
  same : ∀ b, b < n0 → b < h'.wmin → h'.get b = h.get b
theorem Inv.refl (n0 : Nat) (h : H) : Inv n0 h h := ⟨Nat.le_refl _, Nat.le_refl _, fun _ _ h => h, fun _ _ _ => rfl⟩
theorem Inv.trans {n0 : Nat} {a b c : H} (h : Inv n0 a b) (k : Inv n0 b c) : Inv n0 a c :=
  ⟨Nat.le_trans h.nx k.nx, Nat.le_trans k.wm h.wm, fun x hx hn => k.fresh x hx (h.fresh x hx hn), fun x hx hw => (k.same x hx hw).trans (h.same x hx (Nat.lt_of_lt_of_le hw k.wm))⟩
theorem Inv.mono {n0 n1 : Nat} {a b : H} (hle : n1 ≤ n0) (h : Inv n0 a b) : Inv n1 a b := ⟨h.nx, h.wm, fun x hx => h.fresh x (Nat.lt_of_lt_of_le hx hle), fun x hx => h.same x (Nat.lt_of_lt_of_le hx hle)⟩
theorem Inv.put {n0 : Nat} {h : H} {b : Nat} (x : ABlk) (hb : n0 ≤ b ∨ (h.get b).isSome = true) : Inv n0 h (h.put b x) := by
  refine ⟨Nat.le_refl _, Nat.min_le_left _ _, fun k hk hn => ?_, fun k hk hw => ?_⟩
  · rw [H.get_put, if_neg ?_]
    · exact hn
    · intro e; subst e; rcases hb with hb | hb
      · omega
      · rw [hn] at hb; cases hb
  · rw [H.get_put, if_neg ?_]
    intro e; subst e
    have : (h.put k x).wmin ≤ k := Nat.min_le_right _ _
    omega
theorem Inv.new {n0 : Nat} (h : H) {b : Nat} (x : ABlk) (hb : n0 ≤ b) : Inv n0 h (h.new b x) := by
  refine ⟨Nat.le_max_left _ _, Nat.le_refl _, fun k hk hn => ?_, fun k hk hw => ?_⟩
  · rw [H.get_new, if_neg (by omega)]; exact hn
  · rw [H.get_new, if_neg (by omega)]
theorem Inv.puts {n0 : Nat} : ∀ (ups : List (Nat × ABlk)) (h : H), (∀ p ∈ ups, (h.get p.1).isSome = true) → Inv n0 h (h.puts ups)
  | [], h, _ => .refl n0 h
  | (b, x) :: l, h, hu => by
    refine (Inv.put x (.inr (hu (b, x) (by simp)))).trans (Inv.puts l _ fun p hp => ?_)
    rw [H.get_put]; split
    · rfl
    · exact hu p (by simp [hp])
theorem getAll_isSome : ∀ {l : List Nat} {h : H} {bs : List ABlk}, getAll h l = some bs → ∀ b ∈ l, (h.get b).isSome = true
  | [], _, _, _, b, hb => by cases hb
  | c :: l, h, bs, hg, b, hb => by
    have h0 : getAll h (c :: l) = match h.get c, getAll h l with | some x, some xs => some (x :: xs) | _, _ => none := rfl
    rw [h0] at hg
    split at hg
    · rename_i x xs hx hxs
      rcases List.mem_cons.1 hb with rfl | hb
      · rw [hx]; rfl
      · exact getAll_isSome hxs b hb
    · cases hg
theorem loc_run_inv {l : Loc} {aid : Nat} {h h' : H} {v : AV} {fp : FP} (hr : l.run aid h = some (v, h', fp)) :
    ∃ bs v0 ups nw, getAll h l.rd = some bs ∧ l.f bs = some (v0, ups, nw) ∧
      ((nw = none ∧ v = v0 ∧ h' = h.puts ups ∧ fp = .loc l.rd (ups.map (·.1)) none) ∨ (∃ x, nw = some x ∧ v = atNew aid v0 ∧ h' = (h.puts ups).new aid x ∧ fp = .loc l.rd (ups.map (·.1)) (some aid))) := by
  unfold Loc.run at hr
  split at hr
  · cases hr
  · rename_i bs hbs
    split at hr
    · cases hr
    · rename_i v0 ups hf
      simp only [Option.some.injEq, Prod.mk.injEq] at hr
      exact ⟨bs, v0, ups, none, hbs, hf, .inl ⟨rfl, hr.1.symm, hr.2.1.symm, hr.2.2.symm⟩⟩
    · rename_i v0 ups x hf
      simp only [Option.some.injEq, Prod.mk.injEq] at hr
      exact ⟨bs, v0, ups, some x, hbs, hf, .inr ⟨x, rfl, hr.1.symm, hr.2.1.symm, hr.2.2.symm⟩⟩
theorem inv_loc {n0 : Nat} {op : AOp} {e : Env} {aid : Nat} {h h' : H} {v : AV} {fp : FP} (ha : n0 ≤ aid) (hr : (opLoc op e).run aid h = some (v, h', fp)) : Inv n0 h h' := by
  obtain ⟨bs, v0, ups, nw, hg, hf, hc⟩ := loc_run_inv hr
  have hp : Inv n0 h (h.puts ups) := Inv.puts ups h fun p hp => getAll_isSome hg _ (loc_ups op e hf p hp)
  rcases hc with ⟨_, _, rfl, _⟩ | ⟨x, _, _, rfl, _⟩
  · exact hp
  · exact hp.trans (Inv.new _ x ha)
theorem kind_cases (o : AOper) (e : Env) : o.kind e = .skip ∨ o.kind e = .bad ∨ (∃ op, o.kind e = .loc (opLoc op e)) ∨ (∃ f l, o.kind e = .call f l) ∨ (∃ b it, o.kind e = .next b it) := by
  have h : (∃ op, o.op.kind e = .loc (opLoc op e)) ∨ (∃ f l, o.op.kind e = .call f l) ∨ (∃ b it, o.op.kind e = .next b it) := by
    cases ho : o.op <;> first | exact .inr (.inl ⟨_, _, rfl⟩) | exact .inr (.inr ⟨_, _, rfl⟩) | exact .inl ⟨_, rfl⟩
  unfold AOper.kind
  split
  · exact .inr (.inr h)
  · split
    · rw [cond_eq_ite]; split
      · exact .inr (.inr h)
      · exact .inl rfl
    · exact .inl rfl
    · exact .inr (.inl rfl)
abbrev Cf := AV → List AV → H → T (AV × H)
theorem nextF_inv (b : Bool) (it : AV) (h : H) : (nextF b it h).lv fun r => Inv h.next h r.2 := by
  cases b with
  | true =>
    refine T.lv_ofOpt.2 ?_
    intro r hr
    obtain ⟨v, _, rfl⟩ := Option.map_eq_some_iff.1 hr
    exact .refl _ _
  | false =>
  unfold nextF nextS
  simp only
  split
  · split
    · exact .refl _ _
    · rename_i r m since seen last hr
      split
      · split
        · trivial
        · intro i hi
          show T.lv _ (match (candidates _ since seen)[i]? with | some (some x) => _ | some none => _ | none => _)
          split
          · exact Inv.put _ (.inr (by rw [hr]; rfl))
          · exact .refl _ _
          · trivial
      · trivial
    · trivial
  · trivial
theorem kind_inv {call : Cf} (hcall : ∀ f l h, (call f l h).lv fun r => Inv h.next h r.2) {n0 aid : Nat} (o : AOper) (e : Env) (h : H) (ha : n0 ≤ aid) (hn : n0 ≤ h.next) : ((o.kind e).run call aid h).lv fun r => Inv n0 h r.2.1 := by
  rcases kind_cases o e with hk | hk | ⟨op, hk⟩ | ⟨f, l, hk⟩ | ⟨b, it, hk⟩ <;> rw [hk]
  · exact .refl _ _
  · trivial
  · refine T.lv_ofOpt.2 ?_
    rintro ⟨v, h', fp⟩ hr
    exact inv_loc ha hr
  · refine T.lv_bind (hcall f l _) ?_
    rintro ⟨v, h'⟩ hi
    have hi : Inv h.next { h with wmin := h.next } h' := hi
    refine ⟨hi.nx, Nat.min_le_left _ _, fun b hb hb' => hi.fresh b (by show b < h.next; omega) hb', fun b hb hw => hi.same b (by show b < h.next; omega) (Nat.lt_of_lt_of_le hw (Nat.min_le_right _ _))⟩
  · refine T.lv_bind (nextF_inv b it h) ?_
    rintro ⟨v, h'⟩ hi
    exact hi.mono hn
theorem stepG_inv {call : Cf} (hcall : ∀ f l h, (call f l h).lv fun r => Inv h.next h r.2) {n0 aid : Nat} (o : AOper) (s : St) (ha : n0 ≤ aid) (hn : n0 ≤ s.2.next) : (stepG call aid o s).lv fun r => Inv n0 s.2 r.1.2 := by
  refine T.lv_bind (kind_inv hcall o s.1 s.2 ha hn) ?_
  rintro ⟨v, h', fp⟩ hi
  exact hi
theorem runSeq_inv {call : Cf} (hcall : ∀ f l h, (call f l h).lv fun r => Inv h.next h r.2) : ∀ (ops : List AOper) (s : St), (runSeq call ops s).lv fun r => Inv s.2.next s.2 r.2
  | [], s => .refl _ _
  | o :: l, s => by
    refine T.lv_bind (stepG_inv hcall o s (Nat.le_refl _) (Nat.le_refl _)) ?_
    rintro ⟨s', fp⟩ hi
    refine T.lv_mono ?_ (runSeq_inv hcall l s')
    intro r hr
    exact hi.trans (hr.mono hi.nx)
theorem step1_inv {call : Cf} (hcall : ∀ f l h, (call f l h).lv fun r => Inv h.next h r.2) (b0 : Nat) (ops : List AOper) (uno : List (Nat × Nat)) (i : Nat) (s : St) (fs : PT FP) (hn : b0 ≤ s.2.next) : (step1 call b0 ops uno i s fs).lv fun r => Inv b0 s.2 r.1.2 := by
  unfold step1
  split
  · trivial
  · refine T.lv_bind (stepG_inv hcall _ s (by omega : b0 ≤ b0 + i) hn) ?_
    rintro ⟨s', fp⟩ hi
    show T.lv _ (bif okWith uno fs i fp then _ else _)
    cases okWith uno fs i fp
    · trivial
    · exact hi
theorem runFP_inv {call : Cf} (hcall : ∀ f l h, (call f l h).lv fun r => Inv h.next h r.2) (b0 : Nat) (ops : List AOper) (uno : List (Nat × Nat)) : ∀ (l : List Nat) (s : St) (fs : PT FP), b0 ≤ s.2.next → (runFP call b0 ops uno l s fs).lv fun r => Inv b0 s.2 r.2
  | [], s, _, _ => .refl _ _
  | i :: l, s, fs, hn => by
    refine T.lv_bind (step1_inv hcall b0 ops uno i s fs hn) ?_
    rintro ⟨s', fs'⟩ hi
    refine T.lv_mono ?_ (runFP_inv hcall b0 ops uno l s' fs' (Nat.le_trans hn hi.nx))
    intro r hr
    exact hi.trans hr
theorem runDraw_inv {call : Cf} (hcall : ∀ f l h, (call f l h).lv fun r => Inv h.next h r.2) (ops : List AOper) (uno : List (Nat × Nat)) (s : St) : (runDraw call ops uno s).lv fun r => Inv s.2.next s.2 r.2 := by
  refine T.lv_mono ?_ (runFP_inv hcall s.2.next ops uno _ _ _ (Nat.le_add_right _ _))
  intro r hr
  exact ⟨Nat.le_trans (Nat.le_add_right _ _) hr.nx, hr.wm, hr.fresh, hr.same⟩
theorem roundEnd_inv (l : Nat) (x : EX) (h : H) : (roundEnd l x h).lv fun r => Inv h.next h r.2 := by
  unfold roundEnd
  split
  · rename_i hl
    have hs : (h.get l).isSome = true := by rw [hl]; rfl
    split <;> exact Inv.put _ (.inr hs)
  · trivial
variable {tbl : Nat → Option AFn}
theorem callF_inv {ex : Ex} (hex : ∀ rnd c e h, (ex rnd c e h).lv fun r => Inv h.next h r.2.2) (f : AV) (l : List AV) (h : H) : (callF tbl ex f l h).lv fun r => Inv h.next h r.2 := by
  unfold callF
  split
  · split
    · trivial
    · rw [cond_eq_ite]; split
      · refine T.lv_bind (hex _ _ _ _) ?_
        rintro ⟨x, e, h'⟩ hi
        have hi : Inv h.next h h' := hi
        cases x with
        | exit _ => trivial
        | _ =>
          refine T.lv_ofOpt.2 ?_
          intro a ha
          simp only [Option.map_eq_some_iff] at ha
          obtain ⟨vs, _, rfl⟩ := ha
          exact hi
      · trivial
  · split
    · rename_i l pend env ps asg body hl
      split
      · trivial
      · refine T.lv_bind (hex _ _ _ _) ?_
        rintro ⟨x, e, h1⟩ hi
        have hi : Inv h.next h h1 := hi
        cases x with
        | normal =>
          simp only
          split
          · rename_i hl1
            refine T.lv_bind (hex _ _ _ _) ?_
            rintro ⟨x2, e2, h2⟩ hi2
            have hi2 : Inv (h1.put _ _).next (h1.put _ _) h2 := hi2
            have h12 : Inv h.next h h2 := (hi.trans (Inv.put _ (.inr (by rw [hl1]; rfl)))).trans (hi2.mono hi.nx)
            refine T.lv_mono ?_ (roundEnd_inv _ x2 h2)
            intro r hr
            exact h12.trans (hr.mono h12.nx)
          · trivial
        | _ => trivial
    · trivial
  · trivial
theorem exec_inv : ∀ (n : Nat) (rnd : Option Nat) (c : AC) (e : Env) (h : H), (exec tbl n rnd c e h).lv fun r => Inv h.next h r.2.2
  | 0, _, _, _, _ => trivial
  | n + 1, rnd, c, e, h => by
    have ih := exec_inv n
    have hcall := callF_inv (tbl := tbl) ih
    show (step tbl (exec tbl n) rnd c e h).lv _
    cases c with
    | skip => exact .refl _ _
    | seq a b =>
      refine T.lv_bind (ih rnd a e h) ?_
      rintro ⟨x, e', h'⟩ hi
      cases x with
      | normal => exact T.lv_mono (fun r hr => hi.trans (hr.mono hi.nx)) (ih rnd b e' h')
      | _ => exact hi
    | cond c a b =>
      simp only [step]
      split
      · rename_i t _
        cases t
        · exact ih rnd b e h
        · exact ih rnd a e h
      · trivial
    | block id b =>
      refine T.lv_bind (ih rnd b e h) ?_
      rintro ⟨x, e', h'⟩ hi
      cases x with
      | exit id' =>
        simp only [cond_eq_ite]
        split <;> exact hi
      | _ => exact hi
    | loop b =>
      refine T.lv_bind (ih rnd b e h) ?_
      rintro ⟨x, e', h'⟩ hi
      cases x with
      | normal => exact T.lv_mono (fun r hr => hi.trans (hr.mono hi.nx)) (ih rnd _ e' h')
      | _ => exact hi
    | scope b => exact ih rnd b e h
    | exit id => exact .refl _ _
    | ret => exact .refl _ _
    | region ops =>
      refine T.lv_bind (runSeq_inv hcall ops (e, h)) ?_
      intro s hi
      exact hi
    | draw ops uno =>
      refine T.lv_bind (runDraw_inv hcall ops uno (e, h)) ?_
      intro s hi
      exact hi
    | rangeF f ps asg body =>
      simp only [step]
      split
      · trivial
      · refine T.lv_bind (hcall _ _ _) ?_
        rintro ⟨v, h'⟩ hi
        have hi0 : Inv h.next h h' := (Inv.new h _ (Nat.le_refl _)).trans (hi.mono (Nat.le_max_left _ _))
        have hput : ∀ x, Inv h.next h (h'.put h.next x) := fun x => hi0.trans (Inv.put x (.inl (Nat.le_refl _)))
        simp only
        split
        · trivial
        · split
          · exact hput _
          · exact T.lv_mono (fun r hr => (hput _).trans (hr.mono hi0.nx)) (ih rnd _ _ _)
        · trivial
    | bad => trivial
end Go.Ax
end
section
namespace Go.Ax
namespace T
variable {α β γ δ : Type}
def Le (R : α → β → Prop) : T α → T β → Prop
  | .fail, _ => True
  | .ret a, y => ∃ b, y = .ret b ∧ R a b
  | .ask n k, y => ∃ k', y = .ask n k' ∧ ∀ i, i < n → Le R (k i) (k' i)
theorem Le.bind {R : α → β → Prop} {S : γ → δ → Prop} {x : T α} {y : T β} {f : α → T γ} {g : β → T δ} {I : α → Prop} (h : Le R x y) (hx : x.lv I) (hf : ∀ a b, R a b → I a → Le S (f a) (g b)) : Le S (x.bind f) (y.bind g) := by
  induction x generalizing y with
  | fail => trivial
  | ret a => obtain ⟨b, rfl, hr⟩ := h; exact hf a b hr hx
  | ask n k ih => obtain ⟨k', rfl, hk⟩ := h; exact ⟨_, rfl, fun i hi => ih i (hk i hi) (hx i hi)⟩
theorem Le.ofOpt {R : α → β → Prop} {x : Option α} {y : Option β} (h : ∀ a, x = some a → ∃ b, y = some b ∧ R a b) : Le R (T.ofOpt x) (T.ofOpt y) := by
  cases x with
  | none => trivial
  | some a => obtain ⟨b, rfl, hr⟩ := h a rfl; exact ⟨b, rfl, hr⟩
theorem Le.all {R : α → β → Prop} {x : T α} {y : T β} (h : Le R x y) {Q : α → Prop} {Q' : β → Prop} (hq : ∀ a b, R a b → Q a → Q' b) (hx : x.all Q) : y.all Q' := by
  induction x generalizing y with
  | fail => exact hx.elim
  | ret a => obtain ⟨b, rfl, hr⟩ := h; exact hq a b hr hx
  | ask n k ih => obtain ⟨k', rfl, hk⟩ := h; exact ⟨hx.1, fun i hi => ih i (hk i hi) (hx.2 i hi)⟩
theorem Le.mono {R S : α → β → Prop} {x : T α} {y : T β} (h : Le R x y) (hq : ∀ a b, R a b → S a b) : Le S x y := by
  induction x generalizing y with
  | fail => trivial
  | ret a => obtain ⟨b, rfl, hr⟩ := h; exact ⟨b, rfl, hq a b hr⟩
  | ask n k ih => obtain ⟨k', rfl, hk⟩ := h; exact ⟨_, rfl, fun i hi => ih i (hk i hi)⟩
end T
theorem H.ext {a b : H} (h1 : a.next = b.next) (h2 : a.wmin = b.wmin) (h3 : a.m = b.m) : a = b := by
  cases a; cases b; subst h1 h2 h3; rfl
namespace H
theorem put_put (h : H) {b c : Nat} (x y : ABlk) (hne : b ≠ c) : (h.put b x).put c y = (h.put c y).put b x :=
  H.ext rfl (by show min (min h.wmin b) c = min (min h.wmin c) b; omega) (PT.set_comm _ _ _ hne.symm)
theorem put_new (h : H) {b c : Nat} (x y : ABlk) (hne : b ≠ c) : (h.put b x).new c y = (h.new c y).put b x :=
  H.ext rfl rfl (PT.set_comm _ _ _ hne.symm)
theorem new_new (h : H) {b c : Nat} (x y : ABlk) (hne : b ≠ c) : (h.new b x).new c y = (h.new c y).new b x :=
  H.ext (by show max (max h.next (b + 1)) (c + 1) = max (max h.next (c + 1)) (b + 1); omega) rfl (PT.set_comm _ _ _ hne.symm)
theorem puts_put : ∀ (ups : List (Nat × ABlk)) (h : H) {c : Nat} (y : ABlk), (∀ p ∈ ups, p.1 ≠ c) → (h.puts ups).put c y = (h.put c y).puts ups
  | [], _, _, _, _ => rfl
  | (b, x) :: l, h, c, y, hn => by
    show ((h.put b x).puts l).put c y = ((h.put c y).put b x).puts l
    rw [puts_put l _ y fun p hp => hn p (by simp [hp]), put_put h x y (hn (b, x) (by simp))]
theorem puts_new : ∀ (ups : List (Nat × ABlk)) (h : H) {c : Nat} (y : ABlk), (∀ p ∈ ups, p.1 ≠ c) → (h.puts ups).new c y = (h.new c y).puts ups
  | [], _, _, _, _ => rfl
  | (b, x) :: l, h, c, y, hn => by
    show ((h.put b x).puts l).new c y = ((h.new c y).put b x).puts l
    rw [puts_new l _ y fun p hp => hn p (by simp [hp]), put_new h x y (hn (b, x) (by simp))]
theorem puts_puts : ∀ (ups' ups : List (Nat × ABlk)) (h : H), (∀ p ∈ ups, ∀ q ∈ ups', p.1 ≠ q.1) → (h.puts ups).puts ups' = (h.puts ups').puts ups
  | [], _, _, _ => rfl
  | (c, y) :: l, ups, h, hn => by
    show ((h.puts ups).put c y).puts l = ((h.put c y).puts l).puts ups
    rw [puts_put ups h y fun p hp => hn p hp (c, y) (by simp), puts_puts l ups _ fun p hp q hq => hn p hp q (by simp [hq])]
theorem get_puts : ∀ (ups : List (Nat × ABlk)) (h : H) {c : Nat}, (∀ p ∈ ups, p.1 ≠ c) → (h.puts ups).get c = h.get c
  | [], _, _, _ => rfl
  | (b, x) :: l, h, c, hn => by
    show ((h.put b x).puts l).get c = _
    rw [get_puts l _ fun p hp => hn p (by simp [hp]), get_put, if_neg (fun e => hn (b, x) (by simp) e.symm)]
theorem next_puts : ∀ (ups : List (Nat × ABlk)) (h : H), (h.puts ups).next = h.next
  | [], _ => rfl
  | (b, x) :: l, h => by
    show ((h.put b x).puts l).next = _
    rw [next_puts l]; rfl
theorem new_next (h : H) {b : Nat} (x : ABlk) (hb : b < h.next) : (h.new b x).next = h.next := Nat.max_eq_left hb
end H
theorem getAll_congr : ∀ {l : List Nat} {h h' : H}, (∀ b ∈ l, h'.get b = h.get b) → getAll h' l = getAll h l
  | [], _, _, _ => rfl
  | b :: l, h, h', hb => by simp only [getAll]; rw [hb b (by simp), getAll_congr fun c hc => hb c (by simp [hc])]
theorem getAll_new {l : List Nat} {h : H} {b : Nat} {x : ABlk} {bs : List ABlk} (hn : h.get b = none) (hg : getAll h l = some bs) : getAll (h.new b x) l = some bs := by
  rw [getAll_congr (h := h) ?_]
  · exact hg
  · intro c hc
    rw [H.get_new, if_neg]
    intro e; subst e
    have := getAll_isSome hg c hc
    rw [hn] at this; cases this
def outOf (rd : List Nat) (aid : Nat) (h : H) (v0 : AV) (ups : List (Nat × ABlk)) : Option ABlk → AV × H × FP
  | none => (v0, h.puts ups, .loc rd (ups.map (·.1)) none)
  | some x => (atNew aid v0, (h.puts ups).new aid x, .loc rd (ups.map (·.1)) (some aid))
theorem loc_run_of {l : Loc} {aid : Nat} {h : H} {bs : List ABlk} {v0 : AV} {ups : List (Nat × ABlk)} {nw : Option ABlk} (hg : getAll h l.rd = some bs) (hf : l.f bs = some (v0, ups, nw)) :
    l.run aid h = some (outOf l.rd aid h v0 ups nw) := by
  unfold Loc.run
  rw [hg]
  simp only [hf]
  cases nw <;> rfl
theorem lvTrue {α : Type} (x : T α) : x.lv fun _ => True := by
  induction x with
  | ask n k ih => exact fun i _ => ih i
  | _ => trivial
section frame
variable {b : Nat} {x : ABlk}
theorem loc_frame {op : AOp} {e : Env} {aid : Nat} {h h' : H} {v : AV} {fp : FP} (hn : h.get b = none) (ha : aid ≠ b) (hr : (opLoc op e).run aid h = some (v, h', fp)) :
    (opLoc op e).run aid (h.new b x) = some (v, h'.new b x, fp) := by
  obtain ⟨bs, v0, ups, nw, hg, hf, hc⟩ := loc_run_inv hr
  have hu : ∀ p ∈ ups, p.1 ≠ b := fun p hp e => by
    have := getAll_isSome hg _ (loc_ups op _ hf p hp)
    rw [e, hn] at this; cases this
  rw [loc_run_of (getAll_new hn hg) hf]
  rcases hc with ⟨rfl, rfl, rfl, rfl⟩ | ⟨y, rfl, rfl, rfl, rfl⟩
  · simp only [outOf]
    rw [← H.puts_new ups h x hu]
  · simp only [outOf]
    rw [← H.puts_new ups h x hu, H.new_new _ x y ha.symm]
def Fr (b : Nat) (x : ABlk) (r r' : AV × H) : Prop := r' = (r.1, r.2.new b x)
def Fr3 (b : Nat) (x : ABlk) (r r' : AV × H × FP) : Prop := r' = (r.1, r.2.1.new b x, r.2.2)
def FrS (b : Nat) (x : ABlk) (r r' : St) : Prop := r' = (r.1, r.2.new b x)
def FrSF {γ : Type} (b : Nat) (x : ABlk) (r r' : St × γ) : Prop := r' = ((r.1.1, r.1.2.new b x), r.2)
def FrX (b : Nat) (x : ABlk) (r r' : EX × Env × H) : Prop := r' = (r.1, r.2.1, r.2.2.new b x)
def Out (b : Nat) (h : H) : Prop := h.get b = none ∧ b < h.next
theorem Out.inv {h h' : H} (ho : Out b h) (hi : Inv h.next h h') : Out b h' := ⟨hi.fresh b ho.2 ho.1, Nat.lt_of_lt_of_le ho.2 hi.nx⟩
theorem Out.get {h : H} (ho : Out b h) {c : Nat} (hc : (h.get c).isSome = true) : (h.new b x).get c = h.get c := by
  rw [H.get_new, if_neg]
  intro e; subst e; rw [ho.1] at hc; cases hc
theorem Out.ne {h : H} (ho : Out b h) {c : Nat} {y : ABlk} (hc : h.get c = some y) : c ≠ b := fun e => by rw [e, ho.1] at hc; cases hc
theorem Out.put {h : H} (ho : Out b h) {c : Nat} {y z : ABlk} (hc : h.get c = some y) : (h.new b x).put c z = (h.put c z).new b x := (H.put_new h z x (ho.ne hc)).symm
def CInv (call : Cf) : Prop := ∀ f l h, (call f l h).lv fun r => Inv h.next h r.2
def CFr (call : Cf) : Prop := ∀ f l h b x, Out b h → T.Le (Fr b x) (call f l h) (call f l (h.new b x))
theorem entF_frame (it : AV) {h : H} (ho : Out b h) {v : AV} (hv : entF it h = some v) : entF it (h.new b x) = some v := by
  unfold entF at hv ⊢
  split at hv
  · rename_i r
    split at hv
    · rename_i m since seen last hr
      rw [ho.get (x := x) (by rw [hr]; rfl), hr]
      split at hv
      · rename_i c es clock h1 h2
        simp only [h1, ho.get (x := x) (show (h.get m).isSome = true by rw [h2]; rfl), h2]
        exact hv
      · cases hv
    · cases hv
  · cases hv
theorem nextF_frame (en : Bool) (it : AV) {h : H} (ho : Out b h) : T.Le (Fr b x) (nextF en it h) (nextF en it (h.new b x)) := by
  cases en with
  | true =>
    refine T.Le.ofOpt ?_
    intro r hr
    obtain ⟨v, hv, rfl⟩ := Option.map_eq_some_iff.1 hr
    exact ⟨(v, h.new b x), by rw [entF_frame it ho hv]; rfl, rfl⟩
  | false =>
  unfold nextF nextS
  simp only
  split
  · rename_i r
    cases hr : h.get r with
    | none => trivial
    | some y =>
      rw [ho.get (x := x) (by rw [hr]; rfl), hr]
      cases y with
      | iter m since seen last =>
        cases m with
        | none => exact ⟨_, rfl, rfl⟩
        | some m =>
          simp only
          cases hm : h.get m with
          | none => trivial
          | some z =>
            rw [ho.get (x := x) (by rw [hm]; rfl), hm]
            cases z with
            | map es clock =>
              simp only
              split
              · trivial
              · refine ⟨_, rfl, fun i _ => ?_⟩
                simp only
                cases (candidates es since seen)[i]? with
                | none => trivial
                | some q =>
                  cases q with
                  | none => exact ⟨_, rfl, rfl⟩
                  | some q =>
                    refine ⟨_, rfl, ?_⟩
                    show _ = _
                    simp only [ho.put hr]
            | _ => trivial
      | _ => trivial
  · trivial
theorem kind_frame {call : Cf} (hc : CFr call) (o : AOper) (e : Env) {aid : Nat} {h : H} (ho : Out b h) (ha : aid ≠ b) : T.Le (Fr3 b x) ((o.kind e).run call aid h) ((o.kind e).run call aid (h.new b x)) := by
  rcases kind_cases o e with hk | hk | ⟨op, hk⟩ | ⟨f, l, hk⟩ | ⟨en, it, hk⟩ <;> rw [hk]
  · exact ⟨_, rfl, rfl⟩
  · trivial
  · refine T.Le.ofOpt ?_
    rintro ⟨v, h', fp⟩ hr
    exact ⟨_, loc_frame ho.1 ha hr, rfl⟩
  · have he : ({ h.new b x with wmin := (h.new b x).next } : H) = ({ h with wmin := h.next } : H).new b x := H.ext rfl (by show (h.new b x).next = h.next; exact H.new_next h x ho.2) rfl
    have ho' : Out b ({ h with wmin := h.next } : H) := ho
    refine T.Le.bind (I := fun _ => True) (R := Fr b x) (by rw [he]; exact hc f l _ b x ho') (lvTrue _) ?_
    rintro ⟨v, h'⟩ _ rfl _
    refine ⟨_, rfl, ?_⟩
    show _ = _
    simp only [H.new_next h x ho.2]
    exact Prod.ext rfl (Prod.ext (H.ext rfl rfl rfl) rfl)
  · refine T.Le.bind (I := fun _ => True) (nextF_frame en it ho) (lvTrue _) ?_
    rintro ⟨v, h'⟩ _ rfl _
    exact ⟨_, rfl, rfl⟩
theorem stepG_frame {call : Cf} (hc : CFr call) (o : AOper) {aid : Nat} {e : Env} {h : H} (ho : Out b h) (ha : aid ≠ b) : T.Le (FrSF b x) (stepG call aid o (e, h)) (stepG call aid o (e, h.new b x)) := by
  refine T.Le.bind (I := fun _ => True) (kind_frame hc o e ho ha) (lvTrue _) ?_
  rintro ⟨v, h', fp⟩ _ rfl _
  exact ⟨_, rfl, rfl⟩
theorem runSeq_frame {call : Cf} (hi : CInv call) (hc : CFr call) : ∀ (ops : List AOper) {e : Env} {h : H} (_ : Out b h), T.Le (FrS b x) (runSeq call ops (e, h)) (runSeq call ops (e, h.new b x))
  | [], _, _, _ => ⟨_, rfl, rfl⟩
  | o :: l, e, h, ho => by
    have h1 := stepG_frame (x := x) hc o (e := e) ho (Nat.ne_of_gt ho.2)
    refine T.Le.bind (R := FrSF b x) (by show T.Le _ (stepG call h.next o (e, h)) (stepG call (h.new b x).next o (e, h.new b x)); rw [H.new_next h x ho.2]; exact h1) (stepG_inv hi o (e, h) (Nat.le_refl _) (Nat.le_refl _)) ?_
    rintro ⟨⟨e', h'⟩, fp⟩ _ rfl hv
    exact runSeq_frame hi hc l (ho.inv hv)
theorem step1_frame {call : Cf} (hc : CFr call) (b0 : Nat) (ops : List AOper) (uno : List (Nat × Nat)) (i : Nat) {e : Env} {h : H} (fs : PT FP) (ho : Out b h) (hb : b < b0) :
    T.Le (FrSF b x) (step1 call b0 ops uno i (e, h) fs) (step1 call b0 ops uno i (e, h.new b x) fs) := by
  unfold step1
  split
  · trivial
  · refine T.Le.bind (I := fun _ => True) (stepG_frame hc _ ho (by omega)) (lvTrue _) ?_
    rintro ⟨⟨e', h'⟩, fp⟩ _ rfl _
    show T.Le _ (bif okWith uno fs i fp then _ else _) (bif okWith uno fs i fp then _ else _)
    cases okWith uno fs i fp
    · trivial
    · exact ⟨_, rfl, rfl⟩
theorem runFP_frame {call : Cf} (hi : CInv call) (hc : CFr call) (b0 : Nat) (ops : List AOper) (uno : List (Nat × Nat)) : ∀ (l : List Nat) {e : Env} {h : H} (fs : PT FP) (_ : Out b h) (_ : b < b0) (_ : b0 ≤ h.next),
    T.Le (FrS b x) (runFP call b0 ops uno l (e, h) fs) (runFP call b0 ops uno l (e, h.new b x) fs)
  | [], _, _, _, _, _, _ => ⟨_, rfl, rfl⟩
  | i :: l, e, h, fs, ho, hb, hn => by
    refine T.Le.bind (step1_frame hc b0 ops uno i fs ho hb) (step1_inv hi b0 ops uno i (e, h) fs hn) ?_
    rintro ⟨⟨e', h'⟩, fs'⟩ _ rfl hv
    exact runFP_frame hi hc b0 ops uno l fs' ⟨hv.fresh b hb ho.1, Nat.lt_of_lt_of_le ho.2 hv.nx⟩ hb (Nat.le_trans hn hv.nx)
theorem runDraw_frame {call : Cf} (hi : CInv call) (hc : CFr call) (ops : List AOper) (uno : List (Nat × Nat)) {e : Env} {h : H} (ho : Out b h) :
    T.Le (FrS b x) (runDraw call ops uno (e, h)) (runDraw call ops uno (e, h.new b x)) := by
  unfold runDraw
  have he : ({ h.new b x with next := (h.new b x).next + ops.length } : H) = ({ h with next := h.next + ops.length } : H).new b x := by
    have := ho.2
    exact H.ext (by show max h.next (b + 1) + ops.length = max (h.next + ops.length) (b + 1); omega) rfl rfl
  show T.Le _ _ (runFP call (h.new b x).next ops uno _ (e, { h.new b x with next := (h.new b x).next + ops.length }) .nil)
  rw [he, H.new_next h x ho.2]
  exact runFP_frame hi hc _ ops uno _ .nil ⟨ho.1, Nat.lt_of_lt_of_le ho.2 (Nat.le_add_right _ _)⟩ ho.2 (Nat.le_add_right _ _)
theorem resOne_frame {e : Env} {h : H} (ho : Out b h) {r : ARes} {v : AV} (hr : resOne e h r = some v) : resOne e (h.new b x) r = some v := by
  cases r with
  | tmp t => exact hr
  | cell t n =>
    simp only [resOne] at hr ⊢
    split at hr
    · rename_i c o hc
      split at hr
      · rename_i l own hl
        rw [ho.get (x := x) (by rw [hl]; rfl), hl]
        exact hr
      · cases hr
    · cases hr
theorem resAll_frame {e : Env} {h : H} (ho : Out b h) : ∀ {rs : List ARes} {vs : List AV}, resAll e h rs = some vs → resAll e (h.new b x) rs = some vs
  | [], _, hr => hr
  | r :: rs, vs, hr => by
    simp only [resAll] at hr ⊢
    split at hr
    · rename_i v vs' h1 h2
      rw [resOne_frame ho h1, resAll_frame ho h2]
      exact hr
    · cases hr
theorem roundEnd_frame (l : Nat) (y : EX) {h : H} (ho : Out b h) : T.Le (Fr b x) (roundEnd l y h) (roundEnd l y (h.new b x)) := by
  unfold roundEnd
  cases hl : h.get l with
  | none => trivial
  | some z =>
    rw [ho.get (x := x) (by rw [hl]; rfl), hl]
    cases z with
    | loop st pend env ps asg body =>
      cases st <;> try trivial
      simp only
      cases y <;> (refine ⟨_, rfl, ?_⟩; show _ = _; simp only [ho.put hl])
    | _ => trivial
variable {tbl : Nat → Option AFn}
def XInv (ex : Ex) : Prop := ∀ rnd c e h, (ex rnd c e h).lv fun r => Inv h.next h r.2.2
def XFr (ex : Ex) : Prop := ∀ rnd c e h b x, Out b h → T.Le (FrX b x) (ex rnd c e h) (ex rnd c e (h.new b x))
theorem callF_frame {ex : Ex} (hi : XInv ex) (hx : XFr ex) : CFr (callF tbl ex) := by
  intro f args h b x ho
  unfold callF
  split
  · split
    · trivial
    · rw [cond_eq_ite, cond_eq_ite]; split
      · refine T.Le.bind (hx _ _ _ _ b x ho) (hi _ _ _ _) ?_
        rintro ⟨y, e, h'⟩ _ rfl hv
        have ho' : Out b h' := ho.inv hv
        cases y with
        | exit _ => trivial
        | _ =>
          refine T.Le.ofOpt ?_
          intro a ha
          simp only [Option.map_eq_some_iff] at ha
          obtain ⟨vs, hvs, rfl⟩ := ha
          exact ⟨_, by simp only; rw [resAll_frame ho' hvs]; rfl, rfl⟩
      · trivial
  · rename_i l
    cases hl : h.get l with
    | none => trivial
    | some z =>
      rw [ho.get (x := x) (by rw [hl]; rfl), hl]
      cases z with
      | loop st pend env ps asg body =>
        cases st <;> try trivial
        simp only
        cases zipPut env ps args with
        | none => trivial
        | some e =>
          refine T.Le.bind (hx _ _ _ _ b x ho) (hi _ _ _ _) ?_
          rintro ⟨y, e1, h1⟩ _ rfl hv
          have ho1 : Out b h1 := ho.inv hv
          cases y with
          | normal =>
            simp only
            cases hl1 : h1.get l with
            | none => trivial
            | some z1 =>
              rw [ho1.get (x := x) (by rw [hl1]; rfl), hl1]
              cases z1 with
              | loop st1 pend1 env1 ps1 asg1 body1 =>
                cases st1 <;> try trivial
                simp only
                rw [ho1.put hl1]
                have ho2 : Out b (h1.put l (.loop .busy pend1 env1 ps1 asg1 body1)) := ⟨by rw [H.get_put, if_neg (ho1.ne hl1).symm]; exact ho1.1, ho1.2⟩
                refine T.Le.bind (hx _ _ _ _ b x ho2) (hi _ _ _ _) ?_
                rintro ⟨y2, e2, h2⟩ _ rfl hv2
                exact roundEnd_frame _ _ (ho2.inv hv2)
              | _ => trivial
          | _ => trivial
      | _ => trivial
  · trivial
theorem exec_frame : ∀ (n : Nat), XFr (exec tbl n)
  | 0 => fun _ _ _ _ _ _ _ => trivial
  | n + 1 => fun rnd c e h b x ho => by
    have ih := exec_frame n
    have hi : XInv (exec tbl n) := exec_inv n
    have hcall := callF_frame (tbl := tbl) hi ih
    have hcinv : CInv (callF tbl (exec tbl n)) := callF_inv hi
    show T.Le _ (step tbl (exec tbl n) rnd c e h) (step tbl (exec tbl n) rnd c e (h.new b x))
    cases c with
    | skip => exact ⟨_, rfl, rfl⟩
    | seq a c =>
      refine T.Le.bind (ih rnd a e h b x ho) (hi _ _ _ _) ?_
      rintro ⟨y, e', h'⟩ _ rfl hv
      cases y with
      | normal => exact ih rnd c e' h' b x (ho.inv hv)
      | _ => exact ⟨_, rfl, rfl⟩
    | cond c a c' =>
      simp only [step]
      split
      · rename_i t _
        cases t
        · exact ih rnd c' e h b x ho
        · exact ih rnd a e h b x ho
      · trivial
    | block id c =>
      refine T.Le.bind (ih rnd c e h b x ho) (hi _ _ _ _) ?_
      rintro ⟨y, e', h'⟩ _ rfl hv
      cases y with
      | exit id' =>
        simp only [cond_eq_ite]
        split <;> exact ⟨_, rfl, rfl⟩
      | _ => exact ⟨_, rfl, rfl⟩
    | loop c =>
      refine T.Le.bind (ih rnd c e h b x ho) (hi _ _ _ _) ?_
      rintro ⟨y, e', h'⟩ _ rfl hv
      cases y with
      | normal => exact ih rnd _ e' h' b x (ho.inv hv)
      | _ => exact ⟨_, rfl, rfl⟩
    | scope c => exact ih rnd c e h b x ho
    | exit id => exact ⟨_, rfl, rfl⟩
    | ret => exact ⟨_, rfl, rfl⟩
    | region ops =>
      refine T.Le.bind (runSeq_frame hcinv hcall ops ho) (lvTrue _) ?_
      rintro ⟨e', h'⟩ _ rfl _
      exact ⟨_, rfl, rfl⟩
    | draw ops uno =>
      refine T.Le.bind (runDraw_frame hcinv hcall ops uno ho) (lvTrue _) ?_
      rintro ⟨e', h'⟩ _ rfl _
      exact ⟨_, rfl, rfl⟩
    | rangeF f ps asg body =>
      have hr : ∀ (k : Bool) (g : H → T (EX × Env × H)), (T.Le (FrX b x) (g h) (g (h.new b x))) →
          T.Le (FrX b x) (match (match rnd with | none => true | some l => match h.get l with | some (.loop ..) => true | _ => false) && (f.ev e).isFunc with | false => .fail | true => g h)
            (match (match rnd with | none => true | some l => match (h.new b x).get l with | some (.loop ..) => true | _ => false) && (f.ev e).isFunc with | false => .fail | true => g (h.new b x)) := by
        intro _ g hg
        cases (f.ev e).isFunc
        · simp only [Bool.and_false]; trivial
        simp only [Bool.and_true]
        cases rnd with
        | none => exact hg
        | some l =>
          cases hl : h.get l with
          | none => simp only [hl]; trivial
          | some z =>
            simp only [hl, ho.get (x := x) (show (h.get l).isSome = true by rw [hl]; rfl)]
            cases z <;> first | exact hg | trivial
      refine hr true (fun h => (callF tbl (exec tbl n) (f.ev e) [.fn (.yield h.next) [] []] (h.new h.next (.loop .ready none e ps asg body))).bind fun (_, h') =>
        match h'.get h.next with
        | some (.loop .busy ..) => .fail
        | some (.loop _ pend env ps asg body) =>
          match pend with
          | none => .ret (.normal, e, h'.put h.next (.loop .exhausted pend env ps asg body))
          | some c => (exec tbl n) rnd c e (h'.put h.next (.loop .exhausted pend env ps asg body))
        | _ => .fail) ?_
      simp only
      rw [H.new_next h x ho.2, H.new_new h x _ (Nat.ne_of_lt ho.2)]
      have ho1 : Out b (h.new h.next (.loop .ready none e ps asg body)) := ⟨by rw [H.get_new, if_neg (Nat.ne_of_lt ho.2)]; exact ho.1, Nat.lt_of_lt_of_le ho.2 (Nat.le_max_left _ _)⟩
      refine T.Le.bind (hcall _ _ _ b x ho1) (hcinv _ _ _) ?_
      rintro ⟨v, h'⟩ _ rfl hv
      have ho2 : Out b h' := ho1.inv hv
      simp only
      cases hl : h'.get h.next with
      | none => trivial
      | some z =>
        rw [ho2.get (x := x) (by rw [hl]; rfl), hl]
        cases z with
        | loop st pend env ps asg body =>
          have hput : ∀ z, Out b (h'.put h.next z) := fun z => ⟨by rw [H.get_put, if_neg (Nat.ne_of_lt ho.2)]; exact ho2.1, ho2.2⟩
          cases st <;> first
            | trivial
            | (simp only; rw [ho2.put hl]; cases pend with
               | none => exact ⟨_, rfl, rfl⟩
               | some c => exact ih rnd c _ _ b x (hput _))
        | _ => trivial
    | bad => trivial
end frame
end Go.Ax
end
section
namespace Go.Ax
def upd (ups : List (Nat × ABlk)) (nw : Option ABlk) (aid : Nat) (h : H) : H := match nw with | none => h.puts ups | some x => (h.puts ups).new aid x
def vOf (aid : Nat) (v : AV) : Option ABlk → AV
  | none => v
  | some _ => atNew aid v
theorem outOf_eq (rd : List Nat) (aid : Nat) (h : H) (v0 : AV) (ups : List (Nat × ABlk)) (nw : Option ABlk) :
    outOf rd aid h v0 ups nw = (vOf aid v0 nw, upd ups nw aid h, .loc rd (ups.map (·.1)) (nw.map fun _ => aid)) := by cases nw <;> rfl
theorem loc_run_iff {l : Loc} {aid : Nat} {h : H} {r : AV × H × FP} : l.run aid h = some r ↔
    ∃ bs v0 ups nw, getAll h l.rd = some bs ∧ l.f bs = some (v0, ups, nw) ∧ r = (vOf aid v0 nw, upd ups nw aid h, .loc l.rd (ups.map (·.1)) (nw.map fun _ => aid)) := by
  constructor
  · intro hr
    obtain ⟨v, h', fp⟩ := r
    obtain ⟨bs, v0, ups, nw, hg, hf, hc⟩ := loc_run_inv hr
    refine ⟨bs, v0, ups, nw, hg, hf, ?_⟩
    rcases hc with ⟨rfl, rfl, rfl, rfl⟩ | ⟨x, rfl, rfl, rfl, rfl⟩ <;> rfl
  · rintro ⟨bs, v0, ups, nw, hg, hf, rfl⟩
    rw [loc_run_of hg hf, outOf_eq]
theorem upd_get {ups : List (Nat × ABlk)} {nw : Option ABlk} {aid c : Nat} {h : H} (h1 : c ∉ ups.map (·.1)) (h2 : nw = none ∨ c ≠ aid) : (upd ups nw aid h).get c = h.get c := by
  have hu : ∀ p ∈ ups, p.1 ≠ c := fun p hp e => h1 (List.mem_map.2 ⟨p, hp, e⟩)
  cases nw with
  | none => exact H.get_puts ups h hu
  | some x =>
    rcases h2 with h2 | h2
    · cases h2
    · show ((h.puts ups).new aid x).get c = _
      rw [H.get_new, if_neg h2, H.get_puts ups h hu]
theorem upd_comm {ups ups' : List (Nat × ABlk)} {nw nw' : Option ABlk} {a a' : Nat} (h : H) (h1 : ∀ c ∈ ups'.map (·.1), c ∉ ups.map (·.1) ∧ (nw = none ∨ c ≠ a)) (h2 : ∀ c ∈ ups.map (·.1), nw' = none ∨ c ≠ a') (hne : a ≠ a') :
    upd ups' nw' a' (upd ups nw a h) = upd ups nw a (upd ups' nw' a' h) := by
  have hp : ∀ g : H, (g.puts ups).puts ups' = (g.puts ups').puts ups := fun g => H.puts_puts ups' ups g fun p hp q hq e => (h1 q.1 (List.mem_map.2 ⟨q, hq, rfl⟩)).1 (List.mem_map.2 ⟨p, hp, e⟩)
  have hn' : ∀ x, nw' = some x → ∀ p ∈ ups, p.1 ≠ a' := fun x hx p hp e => by
    rcases h2 p.1 (List.mem_map.2 ⟨p, hp, rfl⟩) with h | h
    · rw [hx] at h; cases h
    · exact h e
  have hn : ∀ x, nw = some x → ∀ p ∈ ups', p.1 ≠ a := fun x hx p hp e => by
    rcases (h1 p.1 (List.mem_map.2 ⟨p, hp, rfl⟩)).2 with h | h
    · rw [hx] at h; cases h
    · exact h e
  cases nw with
  | none =>
    cases nw' with
    | none => exact hp h
    | some y =>
      show (((h.puts ups).puts ups').new a' y) = ((h.puts ups').new a' y).puts ups
      rw [hp, H.puts_new ups _ y (hn' y rfl)]
  | some x =>
    cases nw' with
    | none =>
      show ((h.puts ups).new a x).puts ups' = ((h.puts ups').puts ups).new a x
      rw [← H.puts_new ups' _ x (hn x rfl), hp]
    | some y =>
      show (((h.puts ups).new a x).puts ups').new a' y = (((h.puts ups').new a' y).puts ups).new a x
      rw [← H.puts_new ups' _ x (hn x rfl), ← H.puts_new ups _ y (hn' y rfl), hp, H.new_new _ x y hne]
theorem apartL_spec {a b : List Nat} (h : apartL a b = true) {c : Nat} (hc : c ∈ a) : c ∉ b := by
  have := List.all_eq_true.1 h c hc
  simpa using this
theorem FP.none_spec {r w : List Nat} {n : Option Nat} (h : (FP.loc r w n).none = true) : r = [] ∧ w = [] ∧ n = Option.none := by
  cases r <;> cases w <;> cases n <;> simp [FP.none] at h ⊢
theorem compat_loc {r w r' w' : List Nat} {n n' : Option Nat} (hw : ∀ c ∈ w, c ∈ r) (hw' : ∀ c ∈ w', c ∈ r') (h : (FP.loc r w n).compat (.loc r' w' n') = true) :
    (∀ c ∈ r', c ∉ w ∧ c ∉ n.toList) ∧ (∀ c ∈ r, c ∉ w' ∧ c ∉ n'.toList) := by
  unfold FP.compat at h
  simp only [Bool.or_eq_true, Bool.and_eq_true] at h
  rcases h with (h | h) | ⟨h, h'⟩
  · obtain ⟨rfl, rfl, rfl⟩ := FP.none_spec h
    exact ⟨fun c _ => ⟨by simp, by simp⟩, fun c hc => by cases hc⟩
  · obtain ⟨rfl, rfl, rfl⟩ := FP.none_spec h
    exact ⟨(fun c hc => by cases hc), fun c _ => ⟨by simp, by simp⟩⟩
  · constructor
    · intro c hc
      constructor
      · intro hcw
        exact apartL_spec h (c := c) (by simp [hcw]) (by simp [hc])
      · intro hcn
        exact apartL_spec h (c := c) (by simp at hcn ⊢; exact .inr hcn) (by simp [hc])
    · intro c hc
      constructor
      · intro hcw
        exact apartL_spec h' (c := c) (by simp [hcw]) hc
      · intro hcn
        exact apartL_spec h' (c := c) (by simp at hcn ⊢; exact .inr hcn) hc
def LGood (l : Loc) : Prop := ∀ bs v ups nw, l.f bs = some (v, ups, nw) → ∀ p ∈ ups, p.1 ∈ l.rd
theorem opLoc_good (op : AOp) (e : Env) : LGood (opLoc op e) := fun _ _ _ _ h => loc_ups op e h
theorem nw_or {nw : Option ABlk} {a c : Nat} (h : c ∉ (nw.map fun _ => a).toList) : nw = none ∨ c ≠ a := by
  cases nw with
  | none => exact .inl rfl
  | some x => exact .inr (by simpa using h)
theorem swap_loc {l l' : Loc} (g : LGood l) (g' : LGood l') {a a' : Nat} (hne : a ≠ a') {h h1 h2 : H} {v v' : AV} {f f' : FP} (r1 : l.run a h = some (v, h1, f)) (r2 : l'.run a' h1 = some (v', h2, f'))
    (hc : f.compat f' = true) : ∃ h1', l'.run a' h = some (v', h1', f') ∧ l.run a h1' = some (v, h2, f) := by
  obtain ⟨bs, v0, ups, nw, hg, hf, he⟩ := loc_run_iff.1 r1
  obtain ⟨bs', v0', ups', nw', hg', hf', he'⟩ := loc_run_iff.1 r2
  simp only [Prod.mk.injEq] at he he'
  obtain ⟨rfl, rfl, rfl⟩ := he
  obtain ⟨rfl, rfl, rfl⟩ := he'
  have hu : ∀ c ∈ ups.map (·.1), c ∈ l.rd := fun c hc => by obtain ⟨p, hp, rfl⟩ := List.mem_map.1 hc; exact g _ _ _ _ hf p hp
  have hu' : ∀ c ∈ ups'.map (·.1), c ∈ l'.rd := fun c hc => by obtain ⟨p, hp, rfl⟩ := List.mem_map.1 hc; exact g' _ _ _ _ hf' p hp
  obtain ⟨D1, D2⟩ := compat_loc hu hu' hc
  have e1 : getAll h l'.rd = some bs' := by
    rw [← hg']
    exact (getAll_congr fun c hc => upd_get (D1 c hc).1 (nw_or (D1 c hc).2)).symm
  refine ⟨_, loc_run_iff.2 ⟨bs', v0', ups', nw', e1, hf', rfl⟩, loc_run_iff.2 ⟨bs, v0, ups, nw, ?_, hf, ?_⟩⟩
  · rw [← hg]
    exact getAll_congr fun c hc => upd_get (D2 c hc).1 (nw_or (D2 c hc).2)
  · rw [upd_comm h (fun c hc => ⟨(D1 c (hu' c hc)).1, nw_or (D1 c (hu' c hc)).2⟩) (fun c hc => nw_or (D2 c (hu c hc)).2) hne]
theorem compat_call_loc {lo : Nat} {q : Bool} {r w : List Nat} {n : Option Nat} (h : (FP.call lo q).compat (.loc r w n) = true) : w = [] ∧ (r = [] ∨ (n = none ∧ q = true ∧ ∀ c ∈ r, c < lo)) := by
  unfold FP.compat at h
  simp only [Bool.or_eq_true] at h
  rcases h with (h | h) | h
  · simp [FP.none] at h
  · obtain ⟨rfl, rfl, rfl⟩ := FP.none_spec h
    exact ⟨rfl, .inl rfl⟩
  · cases w with
    | cons x xs => cases n <;> cases r <;> simp at h
    | nil =>
      refine ⟨rfl, ?_⟩
      cases n with
      | none =>
        simp only [Bool.and_eq_true, List.all_eq_true] at h
        exact .inr ⟨rfl, h.1, fun c hc => (by simpa [Nat.blt_eq] using h.2 c hc)⟩
      | some n =>
        cases r with
        | nil => exact .inl rfl
        | cons x xs => simp at h
theorem compat_loc_call {lo : Nat} {q : Bool} {r w : List Nat} {n : Option Nat} (h : (FP.loc r w n).compat (.call lo q) = true) : w = [] ∧ n = none ∧ (r = [] ∨ (q = true ∧ ∀ c ∈ r, c < lo)) := by
  unfold FP.compat at h
  simp only [Bool.or_eq_true] at h
  rcases h with (h | h) | h
  · obtain ⟨rfl, rfl, rfl⟩ := FP.none_spec h
    exact ⟨rfl, rfl, .inl rfl⟩
  · simp [FP.none] at h
  · cases w with
    | cons x xs => cases n <;> cases r <;> simp at h
    | nil =>
      cases n with
      | none =>
        simp only [Bool.and_eq_true, List.all_eq_true] at h
        exact ⟨rfl, rfl, .inr ⟨h.1, fun c hc => (by simpa [Nat.blt_eq] using h.2 c hc)⟩⟩
      | some n => simp at h
theorem map_nil' {ups : List (Nat × ABlk)} (h : ups.map (·.1) = []) : ups = [] := List.map_eq_nil_iff.1 h
theorem nw_nil {nw : Option ABlk} {a : Nat} (h : (nw.map fun _ => a) = none) : nw = none := by cases nw <;> simp_all
def aft (h h' : H) : H := { h' with wmin := min h.wmin h'.wmin }
def fpC (h h' : H) : FP := .call h.next (Nat.ble h.next h'.wmin)
variable {call : Cf}
theorem quiet_reads {h h' : H} (hi : Inv h.next { h with wmin := h.next } h') {rd : List Nat} (hq : rd = [] ∨ (Nat.ble h.next h'.wmin = true ∧ ∀ c ∈ rd, c < h.next)) : getAll (aft h h') rd = getAll h rd := by
  rcases hq with rfl | ⟨hq, hr⟩
  · rfl
  · refine getAll_congr fun c hc => ?_
    exact hi.same c (hr c hc) (Nat.lt_of_lt_of_le (hr c hc) (Nat.le_of_ble_eq_true hq))
theorem swap_call_loc (hi : CInv call) (hfr : CFr call) {l : Loc} {f : AV} {args : List AV} {a : Nat} {h : H} (ho : Out a h) {R : AV → AV → H → FP → FP → Prop}
    (H1 : (call f args { h with wmin := h.next }).all fun r => ∃ v' h2 fi, l.run a (aft h r.2) = some (v', h2, fi) ∧ (fpC h r.2).compat fi = true ∧ R r.1 v' h2 (fpC h r.2) fi) :
    ∃ v' h1 fi, l.run a h = some (v', h1, fi) ∧ (call f args { h1 with wmin := h1.next }).all fun r => R r.1 v' (aft h1 r.2) (fpC h1 r.2) fi := by
  have H2 := T.all_lv H1 (hi f args _)
  obtain ⟨⟨v, h'⟩, ⟨v', h2, fi, hr, hc, hR⟩, hv⟩ := T.all_some H2
  obtain ⟨bs, v0, ups, nw, hg, hf, he⟩ := loc_run_iff.1 hr
  simp only [Prod.mk.injEq] at he
  obtain ⟨rfl, rfl, rfl⟩ := he
  obtain ⟨hu, hq⟩ := compat_call_loc hc
  have hu := map_nil' hu
  subst hu
  have hrd : ∀ h', Inv h.next { h with wmin := h.next } h' → (fpC h h').compat (.loc l.rd [] (nw.map fun _ => a)) = true → getAll (aft h h') l.rd = getAll h l.rd := by
    intro h' hv hc
    obtain ⟨_, hq⟩ := compat_call_loc hc
    refine quiet_reads (h := h) hv ?_
    rcases hq with hq | ⟨_, hq, hr⟩
    · exact .inl hq
    · exact .inr ⟨hq, hr⟩
  have hg0 : getAll h l.rd = some bs := by rw [← hrd h' hv hc]; exact hg
  have hrun : l.run a h = some (vOf a v0 nw, upd [] nw a h, .loc l.rd [] (nw.map fun _ => a)) := loc_run_iff.2 ⟨bs, v0, [], nw, hg0, hf, rfl⟩
  refine ⟨_, _, _, hrun, ?_⟩
  -- at every end the operation gives the same
  have H3 : (call f args { h with wmin := h.next }).all fun r => R r.1 (vOf a v0 nw) (upd [] nw a (aft h r.2)) (fpC h r.2) (.loc l.rd [] (nw.map fun _ => a)) := by
    refine T.all_mono ?_ H2
    rintro ⟨v, h'⟩ ⟨⟨v', h2, fi, hr, hc, hR⟩, hv⟩
    obtain ⟨bs', v0', ups', nw', hg', hf', he⟩ := loc_run_iff.1 hr
    simp only [Prod.mk.injEq] at he
    obtain ⟨rfl, rfl, rfl⟩ := he
    have hbs : bs' = bs := by
      have : getAll (aft h h') l.rd = getAll h l.rd := by
        obtain ⟨_, hq⟩ := compat_call_loc hc
        refine quiet_reads (h := h) hv ?_
        rcases hq with hq | ⟨_, hq, hr⟩
        · exact .inl hq
        · exact .inr ⟨hq, hr⟩
      have h3 : some bs' = some bs := by rw [← hg', ← hg0]; exact this
      exact Option.some.inj h3
    subst hbs
    rw [hf] at hf'
    simp only [Option.some.injEq, Prod.mk.injEq] at hf'
    obtain ⟨rfl, rfl, rfl⟩ := hf'
    exact hR
  cases nw with
  | none => exact H3
  | some x =>
    have hnx : (h.new a x).next = h.next := H.new_next h x ho.2
    have he : ({ h.new a x with wmin := (h.new a x).next } : H) = ({ h with wmin := h.next } : H).new a x := H.ext rfl hnx rfl
    show (call f args ({ h.new a x with wmin := (h.new a x).next } : H)).all _
    rw [he]
    refine T.Le.all (hfr f args { h with wmin := h.next } a x ho) ?_ H3
    rintro ⟨v, h'⟩ _ rfl hR
    have e2 : fpC (h.new a x) (h'.new a x) = fpC h h' := by unfold fpC; rw [hnx]; rfl
    have e3 : aft (h.new a x) (h'.new a x) = upd [] (some x) a (aft h h') := H.ext rfl rfl rfl
    show R v _ (aft (h.new a x) (h'.new a x)) (fpC (h.new a x) (h'.new a x)) _
    rw [e2, e3]
    exact hR
theorem swap_loc_call (hi : CInv call) {l : Loc} {f : AV} {args : List AV} {a : Nat} {h h1 : H} {v : AV} {fj : FP} {R : AV → AV → H → FP → FP → Prop} (hr : l.run a h = some (v, h1, fj))
    (H1 : (call f args { h1 with wmin := h1.next }).all fun r => fj.compat (fpC h1 r.2) = true ∧ R v r.1 (aft h1 r.2) fj (fpC h1 r.2)) :
    (call f args { h with wmin := h.next }).all fun r => ∃ v' h2 fj', l.run a (aft h r.2) = some (v', h2, fj') ∧ R v' r.1 h2 fj' (fpC h r.2) := by
  obtain ⟨bs, v0, ups, nw, hg, hf, he⟩ := loc_run_iff.1 hr
  simp only [Prod.mk.injEq] at he
  obtain ⟨rfl, rfl, rfl⟩ := he
  obtain ⟨⟨v', h'⟩, hc, _⟩ := T.all_some H1
  obtain ⟨hu, hn, hq⟩ := compat_loc_call hc
  have hu := map_nil' hu
  have hn := nw_nil hn
  subst hu; subst hn
  have H2 := T.all_lv H1 (hi f args _)
  refine T.all_mono ?_ H2
  rintro ⟨v', h'⟩ ⟨⟨hc, hR⟩, hv⟩
  obtain ⟨_, _, hq⟩ := compat_loc_call hc
  refine ⟨_, _, _, loc_run_iff.2 ⟨bs, v0, [], none, ?_, hf, rfl⟩, hR⟩
  rw [← hg]
  exact quiet_reads (h := h) hv hq
end Go.Ax
end
section
namespace Go.Ax
variable {call : Cf}
theorem val_good (r : Option AV) : LGood (Loc.val r) := fun _ _ _ _ h => by
  cases r <;> simp [Loc.val] at h
  obtain ⟨_, rfl, _⟩ := h
  intro p hp; cases hp
inductive KN (call : Cf) (k : Kind) : Prop
  | bad : (∀ a h, k.run call a h = .fail) → KN call k
  | loc (l : Loc) : LGood l → (∀ a h, k.run call a h = T.ofOpt (l.run a h)) → KN call k
  | call (f : AV) (args : List AV) : k = .call f args → KN call k
  | next (en : Bool) (it : AV) : k = .next en it → KN call k
theorem kind_norm (call : Cf) (o : AOper) (e : Env) : KN call (o.kind e) := by
  rcases kind_cases o e with hk | hk | ⟨op, hk⟩ | ⟨f, l, hk⟩ | ⟨en, it, hk⟩ <;> rw [hk]
  · exact .loc (Loc.val (some (.tup []))) (val_good _) fun a h => by rw [Loc.run_val]; rfl
  · exact .bad fun a h => rfl
  · exact .loc _ (opLoc_good op e) fun a h => rfl
  · exact .call f l rfl
  · exact .next en it rfl
theorem run_call (f : AV) (args : List AV) (a : Nat) (h : H) : (Kind.call f args).run call a h = (call f args { h with wmin := h.next }).bind fun r => .ret (r.1, aft h r.2, fpC h r.2) := rfl
theorem run_next (en : Bool) (it : AV) (a : Nat) (h : H) : (Kind.next en it).run call a h = (nextF en it h).bind fun r => .ret (r.1, r.2, .big) := rfl
theorem compat_big {r w : List Nat} {n : Option Nat} (h : FP.big.compat (.loc r w n) = true ∨ (FP.loc r w n).compat .big = true) : r = [] ∧ w = [] ∧ n = none := by
  refine FP.none_spec ?_
  rcases h with h | h <;> (unfold FP.compat at h; simpa [FP.none] using h)
theorem swapK (hi : CInv call) (hfr : CFr call) (o o' : AOper) (e : Env) {a a' : Nat} {h : H} (hne : a ≠ a') (ho' : Out a' h) {R : AV → AV → H → FP → FP → Prop}
    (H1 : ((o.kind e).run call a h).all fun r => ((o'.kind e).run call a' r.2.1).all fun r' => r.2.2.compat r'.2.2 = true ∧ R r.1 r'.1 r'.2.1 r.2.2 r'.2.2) :
    ((o'.kind e).run call a' h).all fun r' => ((o.kind e).run call a r'.2.1).all fun r => R r.1 r'.1 r.2.1 r.2.2 r'.2.2 := by
  rcases kind_norm call o e with hb | ⟨l, hl, hr⟩ | ⟨f, args, hk⟩ | ⟨en, it, hk⟩
  · rw [hb] at H1; exact H1.elim
  · rw [hr] at H1
    obtain ⟨⟨v, h1, fp⟩, hrun, H1⟩ := T.all_ofOpt.1 H1
    simp only at H1
    rcases kind_norm call o' e with hb | ⟨l', hl', hr'⟩ | ⟨f', args', hk'⟩ | ⟨en', it', hk'⟩
    · rw [hb] at H1; exact H1.elim
    · rw [hr'] at H1 ⊢
      obtain ⟨⟨v', h2, fp'⟩, hrun', hc, hR⟩ := T.all_ofOpt.1 H1
      obtain ⟨h1', e1, e2⟩ := swap_loc hl hl' hne hrun hrun' hc
      refine T.all_ofOpt.2 ⟨_, e1, ?_⟩
      rw [hr]
      exact T.all_ofOpt.2 ⟨_, e2, hR⟩
    · rw [hk', run_call] at H1 ⊢
      refine (T.all_bind _ _).2 ?_
      have := swap_loc_call (R := R) hi hrun ((T.all_bind _ _).1 H1)
      refine T.all_mono ?_ this
      rintro ⟨w, h'⟩ ⟨v', h2, fj', e1, e2⟩
      show (Kind.run call a (o.kind e) _).all _
      rw [hr]
      exact T.all_ofOpt.2 ⟨_, e1, e2⟩
    · rw [hk', run_next] at H1 ⊢
      have H1 := (T.all_bind _ _).1 H1
      refine (T.all_bind _ _).2 ?_
      obtain ⟨bs, v0, ups, nw, hg, hf, he⟩ := loc_run_iff.1 hrun
      simp only [Prod.mk.injEq] at he
      obtain ⟨rfl, rfl, rfl⟩ := he
      obtain ⟨_, hc, _⟩ := T.all_some H1
      obtain ⟨h0, h1, h2⟩ := compat_big (.inr hc)
      have h1 := map_nil' h1
      have h2 := nw_nil h2
      subst h1; subst h2
      rw [h0] at hg
      cases hg
      refine T.all_mono ?_ H1
      rintro ⟨w, h'⟩ ⟨_, hR⟩
      show (Kind.run call a (o.kind e) _).all _
      rw [hr]
      exact T.all_ofOpt.2 ⟨_, loc_run_iff.2 ⟨[], v0, [], none, by rw [h0]; rfl, hf, rfl⟩, hR⟩
  · rw [hk, run_call] at H1
    have H1 := (T.all_bind _ _).1 H1
    rcases kind_norm call o' e with hb | ⟨l', hl', hr'⟩ | ⟨f', args', hk'⟩ | ⟨en', it', hk'⟩
    · obtain ⟨_, hc⟩ := T.all_some H1
      have hc : ((o'.kind e).run call a' _).all _ := hc
      rw [hb] at hc; exact hc.elim
    · have := swap_call_loc (l := l') (R := R) hi hfr ho' (T.all_mono ?_ H1)
      · obtain ⟨v', h1, fi, e1, e2⟩ := this
        rw [hr']
        refine T.all_ofOpt.2 ⟨_, e1, ?_⟩
        rw [hk, run_call]
        exact (T.all_bind _ _).2 e2
      · rintro ⟨v, h'⟩ hx
        have hx : ((o'.kind e).run call a' _).all _ := hx
        rw [hr'] at hx
        obtain ⟨⟨v', h2, fi⟩, h3, h4, h5⟩ := T.all_ofOpt.1 hx
        exact ⟨v', h2, fi, h3, h4, h5⟩
    · obtain ⟨_, hc⟩ := T.all_some H1
      have hc : ((o'.kind e).run call a' _).all _ := hc
      rw [hk', run_call] at hc
      obtain ⟨_, hc, _⟩ := T.all_some ((T.all_bind _ _).1 hc)
      cases hc
    · obtain ⟨_, hc⟩ := T.all_some H1
      have hc : ((o'.kind e).run call a' _).all _ := hc
      rw [hk', run_next] at hc
      obtain ⟨_, hc, _⟩ := T.all_some ((T.all_bind _ _).1 hc)
      cases hc
  · rw [hk, run_next] at H1
    have H1 := (T.all_bind _ _).1 H1
    rcases kind_norm call o' e with hb | ⟨l', hl', hr'⟩ | ⟨f', args', hk'⟩ | ⟨en', it', hk'⟩
    · obtain ⟨_, hc⟩ := T.all_some H1
      have hc : ((o'.kind e).run call a' _).all _ := hc
      rw [hb] at hc; exact hc.elim
    · have H2 : (nextF en it h).all fun r => l'.rd = [] ∧ ∃ v0, l'.f [] = some (v0, [], none) ∧ R r.1 v0 r.2 .big (.loc [] [] none) := by
        refine T.all_mono ?_ H1
        rintro ⟨v, h'⟩ hx
        have hx : ((o'.kind e).run call a' h').all _ := hx
        rw [hr'] at hx
        obtain ⟨⟨v', h2, fi⟩, h3, h4, h5⟩ := T.all_ofOpt.1 hx
        obtain ⟨bs, v0, ups, nw, hg, hf, he⟩ := loc_run_iff.1 h3
        simp only [Prod.mk.injEq] at he
        obtain ⟨rfl, rfl, rfl⟩ := he
        obtain ⟨h0, h1, h2⟩ := compat_big (.inl h4)
        have h1 := map_nil' h1
        have h2 := nw_nil h2
        subst h1; subst h2
        rw [h0] at hg
        cases hg
        refine ⟨h0, v0, hf, ?_⟩
        have := h5
        simpa [h0, vOf, upd, H.puts] using this
      obtain ⟨_, h0, v0, hf, _⟩ := T.all_some H2
      have hrun : ∀ a h, l'.run a h = some (v0, h, .loc [] [] none) := fun a h => loc_run_iff.2 ⟨[], v0, [], none, by rw [h0]; rfl, hf, by rw [h0]; rfl⟩
      rw [hr', hrun]
      refine T.all_ofOpt.2 ⟨_, rfl, ?_⟩
      rw [hk, run_next]
      refine (T.all_bind _ _).2 (T.all_mono ?_ H2)
      rintro ⟨v, h'⟩ ⟨_, v0', hf', hR⟩
      rw [hf] at hf'
      cases hf'
      exact hR
    · obtain ⟨_, hc⟩ := T.all_some H1
      have hc : ((o'.kind e).run call a' _).all _ := hc
      rw [hk', run_call] at hc
      obtain ⟨_, hc, _⟩ := T.all_some ((T.all_bind _ _).1 hc)
      cases hc
    · obtain ⟨_, hc⟩ := T.all_some H1
      have hc : ((o'.kind e).run call a' _).all _ := hc
      rw [hk', run_next] at hc
      obtain ⟨_, hc, _⟩ := T.all_some ((T.all_bind _ _).1 hc)
      cases hc
theorem get_put_ne {e : Env} {d : Option Nat} {t : Nat} {v : AV} (h : ∀ x, d = some x → t ≠ x) : (e.put d v).get t = e.get t := by
  cases d with
  | none => rfl
  | some x => rw [Env.get_put_some, if_neg (h x rfl)]
theorem ev_put {e : Env} {d : Option Nat} {v : AV} {x : AO} (h : ∀ y, d = some y → y ∉ x.tmps) : x.ev (e.put d v) = x.ev e := by
  cases x with
  | tmp t => exact get_put_ne fun y hy => fun et => h y hy (by simp [AO.tmps, et])
  | _ => rfl
theorem evs_put {e : Env} {d : Option Nat} {v : AV} {l : List AO} (h : ∀ y, d = some y → y ∉ l.flatMap AO.tmps) : l.map (·.ev (e.put d v)) = l.map (·.ev e) := by
  refine List.map_congr_left fun x hx => ev_put fun y hy hm => h y hy (List.mem_flatMap.2 ⟨x, hx, hm⟩)
theorem evo_put {e : Env} {d : Option Nat} {v : AV} {x : Option AO} (h : ∀ y, d = some y → y ∉ optTmps x) : x.map (·.ev (e.put d v)) = x.map (·.ev e) := by
  cases x with
  | none => rfl
  | some x => simp only [Option.map_some]; rw [ev_put h]
theorem fillC_put {e : Env} {d : Option Nat} {v : AV} : ∀ {ps : List (Nat × Nat × AO)} {z : List AV}, (∀ y, d = some y → y ∉ ps.flatMap fun p => p.2.2.tmps) → fillC (e.put d v) z ps = fillC e z ps
  | [], _, _ => rfl
  | (off, n, x) :: ps, z, h => by
    simp only [fillC]
    rw [ev_put fun y hy hm => h y hy (by simp [hm])]
    have := fun z => fillC_put (z := z) (ps := ps) (e := e) (v := v) fun y hy hm => h y hy (by rw [List.flatMap_cons]; exact List.mem_append_right _ hm)
    simp only [this]
theorem opLoc_put {e : Env} {d : Option Nat} {v : AV} {op : AOp} (h : ∀ y, d = some y → y ∉ op.tmps) : opLoc op (e.put d v) = opLoc op e := by
  cases op <;> simp only [AOp.tmps, List.mem_append, not_or] at h <;> simp only [opLoc]
  all_goals
    (try rw [fillC_put h])
    (try rw [evs_put h])
    (try rw [evs_put fun y hy => (h y hy).1])
    (try rw [evs_put fun y hy => (h y hy).2])
    (try rw [ev_put h])
    (try rw [ev_put fun y hy => (h y hy).1])
    (try rw [ev_put fun y hy => (h y hy).2])
    (try rw [ev_put fun y hy => (h y hy).1.1])
    (try rw [ev_put fun y hy => (h y hy).1.2])
    (try rw [ev_put fun y hy => (h y hy).1.1.1])
    (try rw [evo_put fun y hy => (h y hy).1.1.2])
    (try rw [evo_put fun y hy => (h y hy).1.2])
    (try rw [evo_put fun y hy => (h y hy).2])
theorem kind_put {e : Env} {d : Option Nat} {v : AV} {o : AOper} (h : ∀ y, d = some y → y ∉ o.reads) : o.kind (e.put d v) = o.kind e := by
  have h1 : ∀ y, d = some y → y ∉ o.op.tmps := fun y hy hm => h y hy (List.mem_append_left _ hm)
  have hop : o.op.kind (e.put d v) = o.op.kind e := by
    cases ho : o.op <;> simp only [AOp.kind] <;> rw [ho] at h1 <;> first
      | (rw [opLoc_put h1]; done)
      | (simp only [AOp.tmps, List.mem_append, not_or] at h1; rw [ev_put fun y hy => (h1 y hy).1, evs_put fun y hy => (h1 y hy).2]; done)
      | (rw [ev_put h1]; done)
  unfold AOper.kind
  cases hg : o.guard with
  | none => exact hop
  | some p =>
    obtain ⟨t, want⟩ := p
    simp only
    rw [get_put_ne fun y hy et => h y hy (by subst et; exact List.mem_append_right _ (by rw [hg]; simp)), hop]
theorem put_comm {e : Env} {d d' : Option Nat} {v v' : AV} (h : ∀ x, d = some x → d' ≠ some x) : (e.put d v).put d' v' = (e.put d' v').put d v := by
  cases d with
  | none => rfl
  | some x =>
    cases d' with
    | none => rfl
    | some y => exact PT.set_comm _ _ _ fun e => h x rfl (by rw [e])
structure Apart (o o' : AOper) : Prop where
  r : ∀ y, o.dst = some y → y ∉ o'.reads
  r' : ∀ y, o'.dst = some y → y ∉ o.reads
  d : ∀ x, o.dst = some x → o'.dst ≠ some x
theorem apart_spec {o o' : AOper} (h : o.apart o' = true) : Apart o o' := by
  unfold AOper.apart at h
  simp only [Bool.and_eq_true] at h
  obtain ⟨h1, h2⟩ := h
  refine ⟨fun y hy => ?_, fun y hy => ?_, fun x hx => ?_⟩
  · rw [hy] at h1; simp only [Bool.and_eq_true, Bool.not_eq_true'] at h1; simpa using h1.1
  · rw [hy] at h2; simpa using h2
  · rw [hx] at h1; simp only [Bool.and_eq_true, Bool.not_eq_true'] at h1; simpa using h1.2
theorem stepG_all {a : Nat} {o : AOper} {s : St} {Q : St × FP → Prop} : (stepG call a o s).all Q ↔ ((o.kind s.1).run call a s.2).all fun r => Q ((s.1.put o.dst r.1, r.2.1), r.2.2) := T.all_bind _ _
theorem swapG (hi : CInv call) (hfr : CFr call) {o o' : AOper} (hap : Apart o o') {a a' : Nat} {s : St} (hne : a ≠ a') (ho' : Out a' s.2) {R : St → FP → FP → Prop}
    (H1 : (stepG call a o s).all fun r => (stepG call a' o' r.1).all fun r' => r.2.compat r'.2 = true ∧ R r'.1 r.2 r'.2) :
    (stepG call a' o' s).all fun r' => (stepG call a o r'.1).all fun r => R r.1 r.2 r'.2 := by
  have H1 := stepG_all.1 H1
  refine stepG_all.2 ?_
  have H2 : ((o.kind s.1).run call a s.2).all fun r => ((o'.kind s.1).run call a' r.2.1).all fun r' => r.2.2.compat r'.2.2 = true ∧ R ((s.1.put o.dst r.1).put o'.dst r'.1, r'.2.1) r.2.2 r'.2.2 := by
    refine T.all_mono ?_ H1
    rintro ⟨v, h, fp⟩ hx
    have hx := stepG_all.1 hx
    simp only [kind_put hap.r] at hx
    exact hx
  refine T.all_mono ?_ (swapK hi hfr o o' s.1 hne ho' (R := fun v v' h fp fp' => R ((s.1.put o.dst v).put o'.dst v', h) fp fp') H2)
  rintro ⟨v', h, fp'⟩ hx
  refine stepG_all.2 ?_
  simp only [kind_put hap.r']
  refine T.all_mono ?_ hx
  rintro ⟨v, h2, fp⟩ hR
  show R ((s.1.put o'.dst v').put o.dst v, h2) fp fp'
  rw [← put_comm hap.d]
  exact hR
theorem kind_pure {o : AOper} {e : Env} (h : o.op.isPure = true) : (∃ r, ∀ (call : Cf) a h, (o.kind e).run call a h = T.ofOpt ((Loc.val r).run a h)) := by
  have hop : ∃ r, ∀ (call : Cf) a h, (o.op.kind e).run call a h = T.ofOpt ((Loc.val r).run a h) := by
    cases ho : o.op <;> rw [ho] at h <;> first | (cases h; done) | exact ⟨_, fun _ _ _ => rfl⟩ | exact ⟨some _, fun _ _ _ => rfl⟩
  unfold AOper.kind
  split
  · exact hop
  · split
    · rw [cond_eq_ite]; split
      · exact hop
      · exact ⟨some (.tup []), fun _ _ _ => by rw [Loc.run_val]; rfl⟩
    · exact ⟨some (.tup []), fun _ _ _ => by rw [Loc.run_val]; rfl⟩
    · exact ⟨none, fun _ _ _ => by rw [Loc.run_val]; rfl⟩
theorem fp_pure {o : AOper} {e : Env} (h : o.op.isPure = true) (a : Nat) (m : H) : ((o.kind e).run call a m).lv fun r => r.2.2 = .loc [] [] none := by
  obtain ⟨r, hr⟩ := kind_pure (e := e) h
  rw [hr, Loc.run_val]
  cases r <;> trivial
theorem fp_read {o : AOper} {e : Env} (h : o.op.isRead = true) (a : Nat) (m : H) : ((o.kind e).run call a m).lv fun r => ∃ l, r.2.2 = .loc l [] none := by
  have hloc : ∀ op : AOp, op.isRead = true → (T.ofOpt ((opLoc op e).run a m)).lv fun r => ∃ l, r.2.2 = .loc l [] none := by
    intro op h
    refine T.lv_ofOpt.2 ?_
    rintro ⟨v, h', fp⟩ hr
    obtain ⟨bs, v0, ups, nw, hg, hf, he⟩ := loc_run_iff.1 hr
    simp only [Prod.mk.injEq] at he
    obtain ⟨rfl, rfl, rfl⟩ := he
    suffices ups = [] ∧ nw = none by obtain ⟨rfl, rfl⟩ := this; exact ⟨_, rfl⟩
    clear hr hg
    have hval : ∀ (r : Option AV), (Loc.val r).f bs = some (v0, ups, nw) → ups = [] ∧ nw = none := by
      intro r h
      cases r <;> simp [Loc.val] at h
      exact ⟨h.2.1.symm ▸ rfl, h.2.2.symm ▸ rfl⟩
    have hno : ¬ (Loc.no.f bs = some (v0, ups, nw)) := by simp [Loc.no]
    cases op <;> first | (cases h; done) | skip
    all_goals
      simp only [opLoc] at hf
      repeat' split at hf
    all_goals first
      | exact (hno hf).elim
      | exact hval _ hf
      | ((try simp only at hf); (repeat' split at hf))
    all_goals first
      | (cases hf; done)
      | (simp only [Option.map_eq_some_iff] at hf; obtain ⟨q, _, hf⟩ := hf; (try split at hf) <;> (simp only [Prod.mk.injEq] at hf; exact ⟨hf.2.1.symm, hf.2.2.symm⟩); done)
      | (simp only [Option.some.injEq, Prod.mk.injEq] at hf; exact ⟨hf.2.1.symm, hf.2.2.symm⟩)
  have hop : ((o.op.kind e).run call a m).lv fun r => ∃ l, r.2.2 = .loc l [] none := by
    have := hloc o.op h
    cases ho : o.op <;> rw [ho] at h this <;> first | (cases h; done) | exact this
  unfold AOper.kind
  split
  · exact hop
  · split
    · rw [cond_eq_ite]; split
      · exact hop
      · exact ⟨_, rfl⟩
    · exact ⟨_, rfl⟩
    · trivial
theorem leafEq_eq {k : Leaf} {x y : AV} (hk : k ≠ .str) (h : leafEq k x y = some true) : x = y := by
  unfold leafEq at h
  split at h
  · simp at h; rw [h]
  · split at h
    · rename_i hk; simp at h; rw [hk, h]
    · cases h
  · exact absurd rfl hk
  · cases h
theorem leafsEq_eq : ∀ {ks : List Leaf} {xs ys : List AV}, (∀ k ∈ ks, k ≠ .str) → leafsEq ks xs ys = some true → xs = ys
  | [], [], [], _, _ => rfl
  | [], _ :: _, _, _, h => by cases h
  | [], [], _ :: _, _, h => by cases h
  | _ :: _, [], _, _, h => by cases h
  | _ :: _, _ :: _, [], _, h => by cases h
  | k :: ks, x :: xs, y :: ys, hk, h => by
    simp only [leafsEq] at h
    split at h
    · rename_i a b h1 h2
      simp only [Option.some.injEq, Bool.and_eq_true] at h
      obtain ⟨rfl, rfl⟩ := h
      rw [leafEq_eq (hk k (by simp)) h1, leafsEq_eq (fun k hk' => hk k (by simp [hk'])) h2]
    · cases h
theorem eqAV_eq {ag : Bool} {ks : List Leaf} {x y : AV} (hk : ∀ k ∈ ks, k ≠ .str) (h : eqAV ag ks x y = some true) : x = y := by
  unfold eqAV at h
  split at h
  · rw [leafsEq_eq hk h]
  · have := leafsEq_eq hk h; simpa using this
  · cases h
theorem findE_key {ag : Bool} {ks : List Leaf} {k v : AV} {i : Nat} (hks : ∀ k ∈ ks, k ≠ .str) : ∀ {es : List AEnt} {n : Nat}, findE ag ks k es n = some (some (i, v)) → n ≤ i ∧ ∃ x, es[i - n]? = some x ∧ x.key = k ∧ x.val = v
  | [], _, h => by cases h
  | x :: es, n, h => by
    simp only [findE] at h
    split at h
    · rename_i he
      cases h
      exact ⟨Nat.le_refl _, x, by simp, (eqAV_eq hks he).symm, rfl⟩
    · obtain ⟨h1, y, h2, h3⟩ := findE_key hks h
      exact ⟨by omega, y, by rw [show i - n = (i - (n + 1)) + 1 by omega, List.getElem?_cons_succ]; exact h2, h3⟩
    · cases h
theorem modify_key {es : List AEnt} {i : Nat} {k : AV} {x : AEnt} (hx : es[i]? = some x) (hk : x.key = k) : (es.modify i fun x => { x with key := k }) = es := by
  refine List.ext_getElem? fun j => ?_
  rw [List.getElem?_modify]
  by_cases h : i = j
  · subst h
    rw [hx]
    subst hk
    simp
  · cases es[j]? <;> simp [h]
def valOr (z : AV) : Option (Nat × AV) → AV
  | some (_, v) => v
  | none => z
theorem findE_app {ag : Bool} {ks : List Leaf} {k z : AV} {c : Nat} (hk : eqAV ag ks k k = some true) : ∀ {es : List AEnt} {n : Nat}, findE ag ks k es n = some none → findE ag ks k (es ++ [⟨k, z, c⟩]) n = some (some (n + es.length, z))
  | [], n, _ => by simp only [List.nil_append, findE, hk]; rfl
  | x :: es, n, h => by
    simp only [List.cons_append, findE] at h ⊢
    split at h
    · cases h
    · rw [findE_app hk h, List.length_cons]; congr 3; omega
    · cases h
theorem zeroEq_eq {a b : AV} (h : zeroEq a b = true) : a = b := by
  unfold zeroEq at h
  split at h
  · simp only [Bool.and_eq_true, decide_eq_true_eq] at h; rw [h.1, h.2]
  · cases h
def lookF (ag : Bool) (ks : List Leaf) (z k : AV) : List ABlk → Option (AV × List (Nat × ABlk) × Option ABlk)
  | [.map es _] => if keyOk ag ks k then (findE ag ks k es 0).map fun r => (valOr z r, [], none) else none
  | _ => none
theorem look_run {ag : Bool} {ks : List Leaf} {z : AV} {m k : AO} {e : Env} {a : Nat} {h : H} {r : AV × H × FP} : (opLoc (.look ag ks z m k false) e).run a h = some r ↔
    (m.ev e = .map none ∧ keyOk ag ks (k.ev e) = true ∧ r = (z, h, .loc [] [] none)) ∨
    (∃ b es c q, m.ev e = .map (some b) ∧ h.get b = some (.map es c) ∧ keyOk ag ks (k.ev e) = true ∧ findE ag ks (k.ev e) es 0 = some q ∧ r = (valOr z q, h, .loc [b] [] none)) := by
  simp only [opLoc]
  split
  · rename_i hm
    rw [Loc.run_val]
    by_cases hk : keyOk ag ks (k.ev e) = true
    · simp [hk, hm, eq_comm]
    · simp [hk, hm]
  · rename_i b hm
    rw [loc_run_iff]
    constructor
    · rintro ⟨bs, v0, ups, nw, hg, hf, rfl⟩
      simp only [getAll] at hg
      split at hg
      · rename_i x xs h1 h2
        cases h2
        cases hg
        cases x with
        | map es c =>
          simp only at hf
          split at hf
          · rename_i hk
            obtain ⟨q, hq, hq2⟩ := Option.map_eq_some_iff.1 hf
            refine .inr ⟨b, es, c, q, hm, h1, hk, hq, ?_⟩
            cases q with
            | none => simp only [cond_false, Prod.mk.injEq] at hq2; obtain ⟨rfl, rfl, rfl⟩ := hq2; rfl
            | some p => obtain ⟨i, v⟩ := p; simp only [cond_false, Prod.mk.injEq] at hq2; obtain ⟨rfl, rfl, rfl⟩ := hq2; rfl
          · cases hf
        | _ => cases hf
      · cases hg
    · rintro (⟨h1, _⟩ | ⟨b', es, c, q, h1, h2, h3, h4, rfl⟩)
      · rw [hm] at h1; cases h1
      · rw [hm] at h1; cases h1
        refine ⟨[.map es c], valOr z q, [], none, by simp [getAll, h2], ?_, rfl⟩
        simp only [h3, if_true, h4, Option.map_some]
        cases q with
        | none => rfl
        | some p => rfl
  · rename_i h1 h2
    rw [loc_run_iff]
    constructor
    · rintro ⟨bs, v0, ups, nw, hg, hf, rfl⟩
      simp [Loc.no] at hf
    · rintro (⟨h3, _⟩ | ⟨b', es, c, q, h3, _⟩)
      · exact absurd h3 h1
      · exact absurd h3 (h2 _)
theorem swapE {ag : Bool} {ks : List Leaf} {z : AV} {m k : AO} {e : Env} {a a' : Nat} {h h1 h2 : H} {v v' : AV} {f f' : FP} (hks : ∀ k ∈ ks, k ≠ .str) (r1 : (opLoc (.look ag ks z m k false) e).run a h = some (v, h1, f)) (r2 : (opLoc (.ment ag ks z m k) e).run a' h1 = some (v', h2, f')) :
    (opLoc (.look ag ks z m k false) e).run a h2 = some (v, h2, f) ∧ h1 = h := by
  rcases look_run.1 r1 with ⟨l1, l2, l3⟩ | ⟨b, es, c, q, l1, l2, l3, l4, l5⟩
  · simp only [Prod.mk.injEq] at l3
    obtain ⟨rfl, rfl, rfl⟩ := l3
    exact ⟨look_run.2 (.inl ⟨l1, l2, rfl⟩), rfl⟩
  simp only [Prod.mk.injEq] at l5
  obtain ⟨rfl, rfl, rfl⟩ := l5
  refine ⟨?_, rfl⟩
  obtain ⟨bs, v0, ups, nw, hg, hf, he⟩ := loc_run_iff.1 r2
  simp only [Prod.mk.injEq] at he
  obtain ⟨rfl, rfl, rfl⟩ := he
  simp only [opLoc, l1] at hg hf
  simp only [getAll, l2] at hg
  cases hg
  simp only [l3, if_true, l4, Option.map_some] at hf
  cases q with
  | some p =>
    obtain ⟨i, w⟩ := p
    simp only [Option.some.injEq, Prod.mk.injEq] at hf
    obtain ⟨rfl, rfl, rfl⟩ := hf
    obtain ⟨_, x, hx, hxk, _⟩ := findE_key hks l4
    rw [Nat.sub_zero] at hx
    refine look_run.2 (.inr ⟨b, es, c, _, l1, ?_, l3, l4, rfl⟩)
    simp only [upd, H.puts]
    rw [H.get_put, if_pos rfl, modify_key hx hxk]
  | none =>
    simp only [Option.some.injEq, Prod.mk.injEq] at hf
    obtain ⟨rfl, rfl, rfl⟩ := hf
    refine look_run.2 (.inr ⟨b, _, c + 1, _, l1, ?_, l3, findE_app (c := c) (by simpa [keyOk] using l3) l4, rfl⟩)
    simp only [upd, H.puts]
    rw [H.get_put, if_pos rfl]
theorem isEL_inv {x y : AOp} (h : x.isEL y = true) : ∃ ag ks z m k, (∀ k ∈ ks, k ≠ Leaf.str) ∧ x = .look ag ks z m k false ∧ y = .ment ag ks z m k := by
  unfold AOp.isEL at h
  split at h
  · simp only [Bool.and_eq_true, beq_iff_eq, decide_eq_true_eq] at h
    obtain ⟨⟨⟨⟨⟨rfl, rfl⟩, hz⟩, hks⟩, rfl⟩, rfl⟩ := h
    have := zeroEq_eq hz
    subst this
    exact ⟨_, _, _, _, _, fun k hk => by simpa using List.all_eq_true.1 hks k hk, rfl, rfl⟩
  · cases h
theorem kind_of {o : AOper} {e : Env} {op : AOp} (hop : o.op = op) (hl : op.kind e = .loc (opLoc op e)) : o.kind e = .skip ∨ o.kind e = .bad ∨ o.kind e = .loc (opLoc op e) := by
  unfold AOper.kind
  rw [hop, hl]
  split
  · exact .inr (.inr rfl)
  · split
    · rw [cond_eq_ite]; split
      · exact .inr (.inr rfl)
      · exact .inl rfl
    · exact .inl rfl
    · exact .inr (.inl rfl)
theorem swapGE {o o' : AOper} (hap : Apart o o') (hel : o.op.isEL o'.op = true) {a a' : Nat} {s : St} {R : St → FP → FP → Prop}
    (H1 : (stepG call a o s).all fun r => (stepG call a' o' r.1).all fun r' => R r'.1 r.2 r'.2) :
    (stepG call a' o' s).all fun r' => (stepG call a o r'.1).all fun r => R r.1 r.2 r'.2 := by
  obtain ⟨ag, ks, z, m, k, hks, e1, e2⟩ := isEL_inv hel
  have H1 := stepG_all.1 H1
  refine stepG_all.2 ?_
  have H2 : ((o.kind s.1).run call a s.2).all fun r => ((o'.kind s.1).run call a' r.2.1).all fun r' => R ((s.1.put o.dst r.1).put o'.dst r'.1, r'.2.1) r.2.2 r'.2.2 := by
    refine T.all_mono ?_ H1
    rintro ⟨v, h, fp⟩ hx
    have hx := stepG_all.1 hx
    simp only [kind_put hap.r] at hx
    exact hx
  suffices H3 : ((o'.kind s.1).run call a' s.2).all fun r' => ((o.kind s.1).run call a r'.2.1).all fun r => R ((s.1.put o.dst r.1).put o'.dst r'.1, r.2.1) r.2.2 r'.2.2 by
    refine T.all_mono ?_ H3
    rintro ⟨v', h, fp'⟩ hx
    refine stepG_all.2 ?_
    simp only [kind_put hap.r']
    refine T.all_mono ?_ hx
    rintro ⟨v, h2, fp⟩ hR
    show R ((s.1.put o'.dst v').put o.dst v, h2) fp fp'
    rw [← put_comm hap.d]
    exact hR
  rcases kind_of (e := s.1) e1 rfl with h1 | h1 | h1
  · rw [h1] at H2 ⊢
    exact H2
  · rw [h1] at H2; exact H2.elim
  · rcases kind_of (e := s.1) e2 rfl with h2 | h2 | h2
    · rw [h1, h2] at H2
      rw [h1, h2]
      exact H2
    · rw [h2] at H2
      obtain ⟨_, hx⟩ := T.all_some H2
      exact hx.elim
    · rw [h1, h2] at H2
      rw [h1, h2]
      obtain ⟨⟨v, g1, f⟩, hr1, H2⟩ := T.all_ofOpt.1 H2
      obtain ⟨⟨v', g2, f'⟩, hr2, hR⟩ := T.all_ofOpt.1 H2
      obtain ⟨h3, rfl⟩ := swapE hks hr1 hr2
      exact T.all_ofOpt.2 ⟨_, hr2, T.all_ofOpt.2 ⟨_, h3, hR⟩⟩
end Go.Ax
end
section
namespace Go.Ax
variable {call : Cf}
def Still (o o' : AOper) : Prop := (o.op.isPure || o'.op.isPure || (o.op.isRead && o'.op.isRead) || o.op.isEL o'.op) = true
theorem compat_none {f g : FP} (h : f = .loc [] [] none ∨ g = .loc [] [] none) : f.compat g = true := by
  rcases h with rfl | rfl
  · simp [FP.compat, FP.none]
  · simp [FP.compat, FP.none]
theorem compat_read (l l' : List Nat) : (FP.loc l [] none).compat (.loc l' [] none) = true := by
  unfold FP.compat
  simp [apartL]
theorem stepG_fp {P : FP → Prop} {o : AOper} {a : Nat} {s : St} (h : ((o.kind s.1).run call a s.2).lv fun r => P r.2.2) : (stepG call a o s).lv fun r => P r.2 :=
  T.lv_bind h fun r hr => hr
theorem kind_out (hi : CInv call) (o : AOper) (e : Env) {a c : Nat} {h : H} (ho : Out c h) (hne : c ≠ a) : ((o.kind e).run call a h).lv fun r => Out c r.2.1 := by
  rcases kind_norm call o e with hb | ⟨l, hl, hr⟩ | ⟨f, args, hk⟩ | ⟨en, it, hk⟩
  · rw [hb]; trivial
  · rw [hr]
    refine T.lv_ofOpt.2 ?_
    rintro ⟨v, h', fp⟩ hrun
    obtain ⟨bs, v0, ups, nw, hg, hf, he⟩ := loc_run_iff.1 hrun
    simp only [Prod.mk.injEq] at he
    obtain ⟨rfl, rfl, rfl⟩ := he
    have hc : c ∉ ups.map (·.1) := by
      intro hm
      obtain ⟨p, hp, rfl⟩ := List.mem_map.1 hm
      have := getAll_isSome hg _ (hl _ _ _ _ hf p hp)
      rw [ho.1] at this; cases this
    refine ⟨by rw [upd_get hc (.inr hne)]; exact ho.1, ?_⟩
    cases nw with
    | none => show c < (h.puts ups).next; rw [H.next_puts]; exact ho.2
    | some x => show c < max (h.puts ups).next (a + 1); rw [H.next_puts]; have := ho.2; omega
  · rw [hk, run_call]
    refine T.lv_bind (hi f args _) ?_
    rintro ⟨v, h'⟩ hv
    have h1 : Out c h' := Out.inv (h := { h with wmin := h.next }) ho hv
    exact h1
  · rw [hk, run_next]
    refine T.lv_bind (nextF_inv en it h) ?_
    rintro ⟨v, h'⟩ hv
    exact ho.inv hv
section
variable {base : Nat} {ops : List AOper} {uno : List (Nat × Nat)}
def Free (ops : List AOper) (uno : List (Nat × Nat)) (j i : Nat) : Prop :=
  j < i ∧ ∀ o o', ops[j]? = some o → ops[i]? = some o' → Apart o o' ∧ ((j, i) ∈ uno ∨ Still o o')
def Todo (base : Nat) (L : List Nat) (s : St) (fs : PT FP) : Prop := ∀ k ∈ L, Out (base + k) s.2 ∧ fs.get k = none
theorem okWith_spec {fs : PT FP} {i : Nat} {fp : FP} : okWith uno fs i fp = true ↔ ∀ p ∈ uno, (p.1 = i → ∀ g, fs.get p.2 = some g → fp.compat g = true) ∧ (p.2 = i → ∀ g, fs.get p.1 = some g → g.compat fp = true) := by
  unfold okWith
  rw [List.all_eq_true]
  refine forall_congr' fun p => imp_congr_right fun _ => ?_
  obtain ⟨a, b⟩ := p
  simp only [Bool.and_eq_true, cond_eq_ite, Nat.beq_eq]
  refine and_congr ?_ ?_
  · by_cases h : a = i
    · rw [if_pos h]
      cases hb : fs.get b <;> simp [h]
    · rw [if_neg h]; simp [h]
  · by_cases h : b = i
    · rw [if_pos h]
      cases hb : fs.get a <;> simp [h]
    · rw [if_neg h]; simp [h]
theorem step1_all {i : Nat} {s : St} {fs : PT FP} {Q : St × PT FP → Prop} : (step1 call base ops uno i s fs).all Q ↔
    ∃ o, ops[i]? = some o ∧ (stepG call (base + i) o s).all fun r => okWith uno fs i r.2 = true ∧ Q (r.1, fs.set i r.2) := by
  unfold step1
  cases ho : ops[i]? with
  | none => simp [T.all]
  | some o =>
    simp only [Option.some.injEq, exists_eq_left']
    rw [T.all_bind]
    have : ∀ r : St × FP, (T.all Q (match r with | (s, fp) => bif okWith uno fs i fp then T.ret (s, fs.set i fp) else T.fail)) ↔ (okWith uno fs i r.2 = true ∧ Q (r.1, fs.set i r.2)) := by
      rintro ⟨s', fp⟩
      show T.all Q (bif okWith uno fs i fp then T.ret (s', fs.set i fp) else T.fail) ↔ _
      cases hk : okWith uno fs i fp <;> simp [T.all, hk]
    constructor
    · exact T.all_mono fun r => (this r).1
    · exact T.all_mono fun r => (this r).2
theorem swap1E {j i : Nat} {s : St} {fs : PT FP} (hf : Free ops uno j i) {o o' : AOper} (ho : ops[j]? = some o) (ho' : ops[i]? = some o') (hel : o.op.isEL o'.op = true) (ht : Todo base [j, i] s fs) {R : St × PT FP → Prop}
    (H1 : (step1 call base ops uno j s fs).all fun p => (step1 call base ops uno i p.1 p.2).all R) :
    (step1 call base ops uno i s fs).all fun p => (step1 call base ops uno j p.1 p.2).all R := by
  obtain ⟨o1, ho1, H1⟩ := step1_all.1 H1
  rw [ho] at ho1; cases ho1
  have hne : j ≠ i := Nat.ne_of_lt hf.1
  have ⟨hoj, hfj⟩ := ht j (by simp)
  have ⟨hoi, hfi⟩ := ht i (by simp)
  refine step1_all.2 ⟨o', ho', ?_⟩
  have H2 : (stepG call (base + j) o s).all fun r => (stepG call (base + i) o' r.1).all fun r' => okWith uno fs i r'.2 = true ∧ okWith uno (fs.set i r'.2) j r.2 = true ∧ R (r'.1, (fs.set i r'.2).set j r.2) := by
    refine T.all_mono ?_ H1
    rintro ⟨s1, f1⟩ ⟨hok, hx⟩
    obtain ⟨o'', ho'', hx⟩ := step1_all.1 hx
    rw [ho'] at ho''; cases ho''
    refine T.all_mono ?_ hx
    rintro ⟨s2, f2⟩ ⟨hok2, hR⟩
    refine ⟨okWith_spec.2 fun p hp => ⟨fun h g hg => ?_, fun h g hg => ?_⟩, okWith_spec.2 fun p hp => ⟨fun h g hg => ?_, fun h g hg => ?_⟩, ?_⟩
    · exact ((okWith_spec.1 hok2) p hp).1 h g (by
        rw [PT.get_set, if_neg]
        · exact hg
        · intro e; rw [e, hfj] at hg; cases hg)
    · exact ((okWith_spec.1 hok2) p hp).2 h g (by
        rw [PT.get_set, if_neg]
        · exact hg
        · intro e; rw [e, hfj] at hg; cases hg)
    · rw [PT.get_set] at hg
      split at hg
      · rename_i e
        cases hg
        exact ((okWith_spec.1 hok2) p hp).2 e f1 (by rw [h]; exact PT.get_set_same _ _ _)
      · exact ((okWith_spec.1 hok) p hp).1 h g hg
    · rw [PT.get_set] at hg
      split at hg
      · rename_i e
        cases hg
        exact ((okWith_spec.1 hok2) p hp).1 e f1 (by rw [h]; exact PT.get_set_same _ _ _)
      · exact ((okWith_spec.1 hok) p hp).2 h g hg
    · rw [PT.set_comm _ _ _ hne]
      exact hR
  have hap := (hf.2 o o' ho ho').1
  refine T.all_mono ?_ (swapGE (R := fun st f1 f2 => okWith uno fs i f2 = true ∧ okWith uno (fs.set i f2) j f1 = true ∧ R (st, (fs.set i f2).set j f1)) hap hel H2)
  rintro ⟨s1, f2⟩ hx
  obtain ⟨_, hok, _⟩ := T.all_some hx
  refine ⟨hok, step1_all.2 ⟨o, ho, ?_⟩⟩
  exact T.all_mono (fun r hr => hr.2) hx
theorem swap1 (hi : CInv call) (hfr : CFr call) {j i : Nat} {s : St} {fs : PT FP} (hf : Free ops uno j i) (ht : Todo base [j, i] s fs) {R : St × PT FP → Prop}
    (H1 : (step1 call base ops uno j s fs).all fun p => (step1 call base ops uno i p.1 p.2).all R) :
    (step1 call base ops uno i s fs).all fun p => (step1 call base ops uno j p.1 p.2).all R := by
  have H0 := H1
  obtain ⟨o, ho, H1⟩ := step1_all.1 H1
  have hne : j ≠ i := Nat.ne_of_lt hf.1
  have ⟨hoj, hfj⟩ := ht j (by simp)
  have ⟨hoi, hfi⟩ := ht i (by simp)
  -- the second operation is there
  obtain ⟨⟨s0, f0⟩, _, hx⟩ := T.all_some H1
  obtain ⟨o', ho', _⟩ := step1_all.1 hx
  obtain ⟨hap, hst⟩ := hf.2 o o' ho ho'
  by_cases hel : o.op.isEL o'.op = true
  · exact swap1E hf ho ho' hel ht H0
  refine step1_all.2 ⟨o', ho', ?_⟩
  have H2 : (stepG call (base + j) o s).all fun r => (stepG call (base + i) o' r.1).all fun r' => r.2.compat r'.2 = true ∧ (okWith uno fs i r'.2 = true ∧ okWith uno (fs.set i r'.2) j r.2 = true ∧ R (r'.1, (fs.set i r'.2).set j r.2)) := by
    have hl : (stepG call (base + j) o s).lv fun r => Still o o' → o.op.isPure = true → r.2 = .loc [] [] none := by
      by_cases hp : o.op.isPure = true
      · exact T.lv_mono (fun r hr _ _ => hr) (stepG_fp (P := fun f => f = .loc [] [] none) (fp_pure hp _ _))
      · exact T.lv_mono (fun r _ _ h => absurd h hp) (lvTrue _)
    have hl2 : (stepG call (base + j) o s).lv fun r => o.op.isRead = true → ∃ l, r.2 = .loc l [] none := by
      by_cases hp : o.op.isRead = true
      · exact T.lv_mono (fun r hr _ => hr) (stepG_fp (P := fun f => ∃ l, f = .loc l [] none) (fp_read hp _ _))
      · exact T.lv_mono (fun r _ h => absurd h hp) (lvTrue _)
    refine T.all_mono ?_ (T.all_lv (T.all_lv H1 hl) hl2)
    rintro ⟨s1, f1⟩ ⟨⟨⟨hok, hx⟩, hp1⟩, hr1⟩
    obtain ⟨o'', ho'', hx⟩ := step1_all.1 hx
    rw [ho'] at ho''; cases ho''
    have hl' : (stepG call (base + i) o' s1).lv fun r => o'.op.isPure = true → r.2 = .loc [] [] none := by
      by_cases hp : o'.op.isPure = true
      · exact T.lv_mono (fun r hr _ => hr) (stepG_fp (P := fun f => f = .loc [] [] none) (fp_pure hp _ _))
      · exact T.lv_mono (fun r _ h => absurd h hp) (lvTrue _)
    have hl2' : (stepG call (base + i) o' s1).lv fun r => o'.op.isRead = true → ∃ l, r.2 = .loc l [] none := by
      by_cases hp : o'.op.isRead = true
      · exact T.lv_mono (fun r hr _ => hr) (stepG_fp (P := fun f => ∃ l, f = .loc l [] none) (fp_read hp _ _))
      · exact T.lv_mono (fun r _ h => absurd h hp) (lvTrue _)
    refine T.all_mono ?_ (T.all_lv (T.all_lv hx hl') hl2')
    rintro ⟨s2, f2⟩ ⟨⟨⟨hok2, hR⟩, hp2⟩, hr2⟩
    have hcomp : f1.compat f2 = true := by
      rcases hst with hu | hst
      · exact ((okWith_spec.1 hok2) (j, i) hu).2 rfl f1 (PT.get_set_same _ _ _)
      · unfold Still at hst
        simp only [Bool.or_eq_true, Bool.and_eq_true] at hst
        rcases hst with ((h | h) | ⟨h, h'⟩) | h
        · exact compat_none (.inl (hp1 (by unfold Still; simp [h]) h))
        · exact compat_none (.inr (hp2 h))
        · obtain ⟨l, rfl⟩ := hr1 h
          obtain ⟨l', rfl⟩ := hr2 h'
          exact compat_read l l'
        · exact absurd h hel
    refine ⟨hcomp, okWith_spec.2 fun p hp => ⟨fun h g hg => ?_, fun h g hg => ?_⟩, okWith_spec.2 fun p hp => ⟨fun h g hg => ?_, fun h g hg => ?_⟩, ?_⟩
    · exact ((okWith_spec.1 hok2) p hp).1 h g (by
        rw [PT.get_set, if_neg]
        · exact hg
        · intro e; rw [e, hfj] at hg; cases hg)
    · exact ((okWith_spec.1 hok2) p hp).2 h g (by
        rw [PT.get_set, if_neg]
        · exact hg
        · intro e; rw [e, hfj] at hg; cases hg)
    · rw [PT.get_set] at hg
      split at hg
      · rename_i e
        cases hg
        exact ((okWith_spec.1 hok2) p hp).2 e f1 (by rw [h]; exact PT.get_set_same _ _ _)
      · exact ((okWith_spec.1 hok) p hp).1 h g hg
    · rw [PT.get_set] at hg
      split at hg
      · rename_i e
        cases hg
        exact ((okWith_spec.1 hok2) p hp).1 e f1 (by rw [h]; exact PT.get_set_same _ _ _)
      · exact ((okWith_spec.1 hok) p hp).2 h g hg
    · rw [PT.set_comm _ _ _ hne]
      exact hR
  refine T.all_mono ?_ (swapG (R := fun st f1 f2 => okWith uno fs i f2 = true ∧ okWith uno (fs.set i f2) j f1 = true ∧ R (st, (fs.set i f2).set j f1)) hi hfr hap (by omega) hoi H2)
  rintro ⟨s1, f2⟩ hx
  obtain ⟨_, hok, _⟩ := T.all_some hx
  refine ⟨hok, step1_all.2 ⟨o, ho, ?_⟩⟩
  exact T.all_mono (fun r hr => hr.2) hx
theorem runFP_cons {i : Nat} {l : List Nat} {s : St} {fs : PT FP} {Q : St → Prop} : (runFP call base ops uno (i :: l) s fs).all Q ↔ (step1 call base ops uno i s fs).all fun p => (runFP call base ops uno l p.1 p.2).all Q := T.all_bind _ _
theorem step1_todo (hi : CInv call) {j : Nat} {L : List Nat} {s : St} {fs : PT FP} (ht : Todo base L s fs) (hj : ∀ k ∈ L, k ≠ j) : (step1 call base ops uno j s fs).lv fun p => Todo base L p.1 p.2 := by
  unfold step1
  cases ho : ops[j]? with
  | none => trivial
  | some o =>
    have hk : ∀ k ∈ L, (stepG call (base + j) o s).lv fun r => Out (base + k) r.1.2 := fun k hk =>
      T.lv_bind (kind_out hi o s.1 (ht k hk).1 (by have := hj k hk; omega)) fun r hr => hr
    have hall : (stepG call (base + j) o s).lv fun r => ∀ k ∈ L, Out (base + k) r.1.2 := by
      generalize stepG call (base + j) o s = X at hk
      induction X with
      | ret a => exact fun k h => hk k h
      | fail => trivial
      | ask n f ih => exact fun i h => ih i fun k hk' => hk k hk' i h
    refine T.lv_bind hall ?_
    rintro ⟨s', fp⟩ hx
    show T.lv _ (bif okWith uno fs j fp then _ else _)
    cases okWith uno fs j fp
    · trivial
    · exact fun k hk => ⟨hx k hk, by rw [PT.get_set, if_neg (hj k hk)]; exact (ht k hk).2⟩
theorem take_first (hi : CInv call) (hfr : CFr call) {i : Nat} {B : List Nat} {Q : St → Prop} : ∀ (A : List Nat) (s : St) (fs : PT FP), (∀ j ∈ A, Free ops uno j i) → (A ++ i :: B).Nodup → Todo base (A ++ i :: B) s fs →
    (runFP call base ops uno (A ++ i :: B) s fs).all Q → (step1 call base ops uno i s fs).all fun p => (runFP call base ops uno (A ++ B) p.1 p.2).all Q
  | [], s, fs, _, _, _, H => runFP_cons.1 H
  | j :: A, s, fs, hf, hn, ht, H => by
    have H := runFP_cons.1 (show (runFP call base ops uno (j :: (A ++ i :: B)) s fs).all Q from H)
    have hn' : (A ++ i :: B).Nodup ∧ ∀ k ∈ A ++ i :: B, k ≠ j := by
      have := List.nodup_cons.1 (show (j :: (A ++ i :: B)).Nodup from hn)
      exact ⟨this.2, fun k hk e => this.1 (e ▸ hk)⟩
    have H2 : (step1 call base ops uno j s fs).all fun p => (step1 call base ops uno i p.1 p.2).all fun p => (runFP call base ops uno (A ++ B) p.1 p.2).all Q := by
      refine T.all_mono ?_ (T.all_lv H (step1_todo hi (L := A ++ i :: B) (fun k hk => ht k (List.mem_cons_of_mem _ hk)) hn'.2))
      rintro ⟨s', fs'⟩ ⟨hx, ht'⟩
      exact take_first hi hfr A s' fs' (fun k hk => hf k (List.mem_cons_of_mem _ hk)) hn'.1 ht' hx
    refine T.all_mono ?_ (swap1 hi hfr (hf j (by simp)) (fun k hk => ht k (by simp at hk ⊢; rcases hk with rfl | rfl <;> simp)) H2)
    rintro ⟨s', fs'⟩ hx
    exact runFP_cons.2 hx
end
end Go.Ax
end
