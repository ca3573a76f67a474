/-
  Two operations that have no order may be exchanged: whole steps; and one that is ready may be taken first.
-/
import Derived.Test.YtmhbmnonichopaaXC2
import Derived.Test.YtmhbmnonichopaaXB3
namespace Go.Ax
variable {call : Cf}

theorem val_good (r : Option AV) : LGood (Loc.val r) := fun _ _ _ _ h => by
  cases r <;> simp [Loc.val] at h
  obtain ⟨_, rfl, _⟩ := h
  intro p hp; cases hp

/-- an operation of memory, a call, a round of a map -/
inductive KN (call : Cf) (k : Kind) : Prop
  | bad : (∀ a h, k.run call a h = .fail) → KN call k
  | loc (l : Loc) : LGood l → (∀ a h, k.run call a h = T.ofOpt (l.run a h)) → KN call k
  | call (f : AV) (args : List AV) : k = .call f args → KN call k
  | next (it : AV) : k = .next it → KN call k
theorem kind_norm (call : Cf) (o : AOper) (e : Env) : KN call (o.kind e) := by
  rcases kind_cases o e with hk | hk | ⟨op, hk⟩ | ⟨f, l, hk⟩ | ⟨it, hk⟩ <;> rw [hk]
  · exact .loc (Loc.val (some .undef)) (val_good _) fun a h => by rw [Loc.run_val]; rfl
  · exact .bad fun a h => rfl
  · exact .loc _ (opLoc_good op e) fun a h => rfl
  · exact .call f l rfl
  · exact .next it rfl

theorem run_call (f : AV) (args : List AV) (a : Nat) (h : H) : (Kind.call f args).run call a h = (call f args { h with wmin := h.next }).bind fun r => .ret (r.1, aft h r.2, fpC h r.2) := rfl
theorem run_next (it : AV) (a : Nat) (h : H) : (Kind.next it).run call a h = (nextF it h).bind fun r => .ret (r.1, r.2, .big) := rfl

theorem compat_big {r w : List Nat} {n : Option Nat} (h : FP.big.compat (.loc r w n) = true ∨ (FP.loc r w n).compat .big = true) : r = [] ∧ w = [] ∧ n = none := by
  refine FP.none_spec ?_
  rcases h with h | h <;> (unfold FP.compat at h; simpa [FP.none] using h)

theorem swapK (hi : CInv call) (hfr : CFr call) (o o' : AOper) (e : Env) {a a' : Nat} {h : H} (hne : a ≠ a') (ho' : Out a' h) {R : AV → AV → H → FP → FP → Prop}
    (H1 : ((o.kind e).run call a h).all fun r => ((o'.kind e).run call a' r.2.1).all fun r' => r.2.2.compat r'.2.2 = true ∧ R r.1 r'.1 r'.2.1 r.2.2 r'.2.2) :
    ((o'.kind e).run call a' h).all fun r' => ((o.kind e).run call a r'.2.1).all fun r => R r.1 r'.1 r.2.1 r.2.2 r'.2.2 := by
  rcases kind_norm call o e with hb | ⟨l, hl, hr⟩ | ⟨f, args, hk⟩ | ⟨it, hk⟩
  · rw [hb] at H1; exact H1.elim
  · rw [hr] at H1
    obtain ⟨⟨v, h1, fp⟩, hrun, H1⟩ := T.all_ofOpt.1 H1
    simp only at H1
    rcases kind_norm call o' e with hb | ⟨l', hl', hr'⟩ | ⟨f', args', hk'⟩ | ⟨it', hk'⟩
    · rw [hb] at H1; exact H1.elim
    · rw [hr'] at H1 ⊢
      obtain ⟨⟨v', h2, fp'⟩, hrun', hc, hR⟩ := T.all_ofOpt.1 H1
      obtain ⟨h1', e1, e2⟩ := swap_loc hl hl' hne hrun hrun' hc
      refine T.all_ofOpt.2 ⟨_, e1, ?_⟩
      rw [hr]
      exact T.all_ofOpt.2 ⟨_, e2, hR⟩
    · rw [hk', run_call] at H1 ⊢
      refine (T.all_bind _ _).2 ?_
      have := swap_loc_call (R := R) hi hrun ((T.all_bind _ _).1 H1)
      refine T.all_mono ?_ this
      rintro ⟨w, h'⟩ ⟨v', h2, fj', e1, e2⟩
      show (Kind.run call a (o.kind e) _).all _
      rw [hr]
      exact T.all_ofOpt.2 ⟨_, e1, e2⟩
    · rw [hk', run_next] at H1 ⊢
      have H1 := (T.all_bind _ _).1 H1
      refine (T.all_bind _ _).2 ?_
      obtain ⟨bs, v0, ups, nw, hg, hf, he⟩ := loc_run_iff.1 hrun
      simp only [Prod.mk.injEq] at he
      obtain ⟨rfl, rfl, rfl⟩ := he
      obtain ⟨_, hc, _⟩ := T.all_some H1
      obtain ⟨h0, h1, h2⟩ := compat_big (.inr hc)
      have h1 := map_nil' h1
      have h2 := nw_nil h2
      subst h1; subst h2
      rw [h0] at hg
      cases hg
      refine T.all_mono ?_ H1
      rintro ⟨w, h'⟩ ⟨_, hR⟩
      show (Kind.run call a (o.kind e) _).all _
      rw [hr]
      exact T.all_ofOpt.2 ⟨_, loc_run_iff.2 ⟨[], v0, [], none, by rw [h0]; rfl, hf, rfl⟩, hR⟩
  · rw [hk, run_call] at H1
    have H1 := (T.all_bind _ _).1 H1
    rcases kind_norm call o' e with hb | ⟨l', hl', hr'⟩ | ⟨f', args', hk'⟩ | ⟨it', hk'⟩
    · obtain ⟨_, hc⟩ := T.all_some H1
      have hc : ((o'.kind e).run call a' _).all _ := hc
      rw [hb] at hc; exact hc.elim
    · have := swap_call_loc (l := l') (R := R) hi hfr ho' (T.all_mono ?_ H1)
      · obtain ⟨v', h1, fi, e1, e2⟩ := this
        rw [hr']
        refine T.all_ofOpt.2 ⟨_, e1, ?_⟩
        rw [hk, run_call]
        exact (T.all_bind _ _).2 e2
      · rintro ⟨v, h'⟩ hx
        have hx : ((o'.kind e).run call a' _).all _ := hx
        rw [hr'] at hx
        obtain ⟨⟨v', h2, fi⟩, h3, h4, h5⟩ := T.all_ofOpt.1 hx
        exact ⟨v', h2, fi, h3, h4, h5⟩
    · obtain ⟨_, hc⟩ := T.all_some H1
      have hc : ((o'.kind e).run call a' _).all _ := hc
      rw [hk', run_call] at hc
      obtain ⟨_, hc, _⟩ := T.all_some ((T.all_bind _ _).1 hc)
      cases hc
    · obtain ⟨_, hc⟩ := T.all_some H1
      have hc : ((o'.kind e).run call a' _).all _ := hc
      rw [hk', run_next] at hc
      obtain ⟨_, hc, _⟩ := T.all_some ((T.all_bind _ _).1 hc)
      cases hc
  · rw [hk, run_next] at H1
    have H1 := (T.all_bind _ _).1 H1
    rcases kind_norm call o' e with hb | ⟨l', hl', hr'⟩ | ⟨f', args', hk'⟩ | ⟨it', hk'⟩
    · obtain ⟨_, hc⟩ := T.all_some H1
      have hc : ((o'.kind e).run call a' _).all _ := hc
      rw [hb] at hc; exact hc.elim
    · have H2 : (nextF it h).all fun r => l'.rd = [] ∧ ∃ v0, l'.f [] = some (v0, [], none) ∧ R r.1 v0 r.2 .big (.loc [] [] none) := by
        refine T.all_mono ?_ H1
        rintro ⟨v, h'⟩ hx
        have hx : ((o'.kind e).run call a' h').all _ := hx
        rw [hr'] at hx
        obtain ⟨⟨v', h2, fi⟩, h3, h4, h5⟩ := T.all_ofOpt.1 hx
        obtain ⟨bs, v0, ups, nw, hg, hf, he⟩ := loc_run_iff.1 h3
        simp only [Prod.mk.injEq] at he
        obtain ⟨rfl, rfl, rfl⟩ := he
        obtain ⟨h0, h1, h2⟩ := compat_big (.inl h4)
        have h1 := map_nil' h1
        have h2 := nw_nil h2
        subst h1; subst h2
        rw [h0] at hg
        cases hg
        refine ⟨h0, v0, hf, ?_⟩
        have := h5
        simpa [h0, vOf, upd, H.puts] using this
      obtain ⟨_, h0, v0, hf, _⟩ := T.all_some H2
      have hrun : ∀ a h, l'.run a h = some (v0, h, .loc [] [] none) := fun a h => loc_run_iff.2 ⟨[], v0, [], none, by rw [h0]; rfl, hf, by rw [h0]; rfl⟩
      rw [hr', hrun]
      refine T.all_ofOpt.2 ⟨_, rfl, ?_⟩
      rw [hk, run_next]
      refine (T.all_bind _ _).2 (T.all_mono ?_ H2)
      rintro ⟨v, h'⟩ ⟨_, v0', hf', hR⟩
      rw [hf] at hf'
      cases hf'
      exact hR
    · obtain ⟨_, hc⟩ := T.all_some H1
      have hc : ((o'.kind e).run call a' _).all _ := hc
      rw [hk', run_call] at hc
      obtain ⟨_, hc, _⟩ := T.all_some ((T.all_bind _ _).1 hc)
      cases hc
    · obtain ⟨_, hc⟩ := T.all_some H1
      have hc : ((o'.kind e).run call a' _).all _ := hc
      rw [hk', run_next] at hc
      obtain ⟨_, hc, _⟩ := T.all_some ((T.all_bind _ _).1 hc)
      cases hc

/-! ### Temporaries -/
theorem get_put_ne {e : Env} {d : Option Nat} {t : Nat} {v : AV} (h : ∀ x, d = some x → t ≠ x) : (e.put d v).get t = e.get t := by
  cases d with
  | none => rfl
  | some x => rw [Env.get_put_some, if_neg (h x rfl)]
theorem ev_put {e : Env} {d : Option Nat} {v : AV} {x : AO} (h : ∀ y, d = some y → y ∉ x.tmps) : x.ev (e.put d v) = x.ev e := by
  cases x with
  | tmp t => exact get_put_ne fun y hy => fun et => h y hy (by simp [AO.tmps, et])
  | _ => rfl
theorem evs_put {e : Env} {d : Option Nat} {v : AV} {l : List AO} (h : ∀ y, d = some y → y ∉ l.flatMap AO.tmps) : l.map (·.ev (e.put d v)) = l.map (·.ev e) := by
  refine List.map_congr_left fun x hx => ev_put fun y hy hm => h y hy (List.mem_flatMap.2 ⟨x, hx, hm⟩)
theorem evo_put {e : Env} {d : Option Nat} {v : AV} {x : Option AO} (h : ∀ y, d = some y → y ∉ optTmps x) : x.map (·.ev (e.put d v)) = x.map (·.ev e) := by
  cases x with
  | none => rfl
  | some x => simp only [Option.map_some]; rw [ev_put h]
theorem fillC_put {e : Env} {d : Option Nat} {v : AV} : ∀ {ps : List (Nat × Nat × AO)} {z : List AV}, (∀ y, d = some y → y ∉ ps.flatMap fun p => p.2.2.tmps) → fillC (e.put d v) z ps = fillC e z ps
  | [], _, _ => rfl
  | (off, n, x) :: ps, z, h => by
    simp only [fillC]
    rw [ev_put fun y hy hm => h y hy (by simp [hm])]
    have := fun z => fillC_put (z := z) (ps := ps) (e := e) (v := v) fun y hy hm => h y hy (by rw [List.flatMap_cons]; exact List.mem_append_right _ hm)
    simp only [this]
theorem opLoc_put {e : Env} {d : Option Nat} {v : AV} {op : AOp} (h : ∀ y, d = some y → y ∉ op.tmps) : opLoc op (e.put d v) = opLoc op e := by
  cases op <;> simp only [AOp.tmps, List.mem_append, not_or] at h <;> simp only [opLoc]
  all_goals
    (try rw [fillC_put h])
    (try rw [evs_put h])
    (try rw [evs_put fun y hy => (h y hy).1])
    (try rw [evs_put fun y hy => (h y hy).2])
    (try rw [ev_put h])
    (try rw [ev_put fun y hy => (h y hy).1])
    (try rw [ev_put fun y hy => (h y hy).2])
    (try rw [ev_put fun y hy => (h y hy).1.1])
    (try rw [ev_put fun y hy => (h y hy).1.2])
    (try rw [ev_put fun y hy => (h y hy).1.1.1])
    (try rw [evo_put fun y hy => (h y hy).1.1.2])
    (try rw [evo_put fun y hy => (h y hy).1.2])
    (try rw [evo_put fun y hy => (h y hy).2])
theorem kind_put {e : Env} {d : Option Nat} {v : AV} {o : AOper} (h : ∀ y, d = some y → y ∉ o.reads) : o.kind (e.put d v) = o.kind e := by
  have h1 : ∀ y, d = some y → y ∉ o.op.tmps := fun y hy hm => h y hy (List.mem_append_left _ hm)
  have hop : o.op.kind (e.put d v) = o.op.kind e := by
    cases ho : o.op <;> simp only [AOp.kind] <;> rw [ho] at h1 <;> first
      | (rw [opLoc_put h1]; done)
      | (simp only [AOp.tmps, List.mem_append, not_or] at h1; rw [ev_put fun y hy => (h1 y hy).1, evs_put fun y hy => (h1 y hy).2]; done)
      | (rw [ev_put h1]; done)
  unfold AOper.kind
  cases hg : o.guard with
  | none => exact hop
  | some p =>
    obtain ⟨t, want⟩ := p
    simp only
    rw [get_put_ne fun y hy et => h y hy (by subst et; exact List.mem_append_right _ (by rw [hg]; simp)), hop]
theorem put_comm {e : Env} {d d' : Option Nat} {v v' : AV} (h : ∀ x, d = some x → d' ≠ some x) : (e.put d v).put d' v' = (e.put d' v').put d v := by
  cases d with
  | none => rfl
  | some x =>
    cases d' with
    | none => rfl
    | some y => exact PT.set_comm _ _ _ fun e => h x rfl (by rw [e])

structure Apart (o o' : AOper) : Prop where
  r : ∀ y, o.dst = some y → y ∉ o'.reads
  r' : ∀ y, o'.dst = some y → y ∉ o.reads
  d : ∀ x, o.dst = some x → o'.dst ≠ some x
theorem apart_spec {o o' : AOper} (h : o.apart o' = true) : Apart o o' := by
  unfold AOper.apart at h
  simp only [Bool.and_eq_true] at h
  obtain ⟨h1, h2⟩ := h
  refine ⟨fun y hy => ?_, fun y hy => ?_, fun x hx => ?_⟩
  · rw [hy] at h1; simp only [Bool.and_eq_true, Bool.not_eq_true'] at h1; simpa using h1.1
  · rw [hy] at h2; simpa using h2
  · rw [hx] at h1; simp only [Bool.and_eq_true, Bool.not_eq_true'] at h1; simpa using h1.2

theorem stepG_all {a : Nat} {o : AOper} {s : St} {Q : St × FP → Prop} : (stepG call a o s).all Q ↔ ((o.kind s.1).run call a s.2).all fun r => Q ((s.1.put o.dst r.1, r.2.1), r.2.2) := T.all_bind _ _

theorem swapG (hi : CInv call) (hfr : CFr call) {o o' : AOper} (hap : Apart o o') {a a' : Nat} {s : St} (hne : a ≠ a') (ho' : Out a' s.2) {R : St → FP → FP → Prop}
    (H1 : (stepG call a o s).all fun r => (stepG call a' o' r.1).all fun r' => r.2.compat r'.2 = true ∧ R r'.1 r.2 r'.2) :
    (stepG call a' o' s).all fun r' => (stepG call a o r'.1).all fun r => R r.1 r.2 r'.2 := by
  have H1 := stepG_all.1 H1
  refine stepG_all.2 ?_
  have H2 : ((o.kind s.1).run call a s.2).all fun r => ((o'.kind s.1).run call a' r.2.1).all fun r' => r.2.2.compat r'.2.2 = true ∧ R ((s.1.put o.dst r.1).put o'.dst r'.1, r'.2.1) r.2.2 r'.2.2 := by
    refine T.all_mono ?_ H1
    rintro ⟨v, h, fp⟩ hx
    have hx := stepG_all.1 hx
    simp only [kind_put hap.r] at hx
    exact hx
  refine T.all_mono ?_ (swapK hi hfr o o' s.1 hne ho' (R := fun v v' h fp fp' => R ((s.1.put o.dst v).put o'.dst v', h) fp fp') H2)
  rintro ⟨v', h, fp'⟩ hx
  refine stepG_all.2 ?_
  simp only [kind_put hap.r']
  refine T.all_mono ?_ hx
  rintro ⟨v, h2, fp⟩ hR
  show R ((s.1.put o'.dst v').put o.dst v, h2) fp fp'
  rw [← put_comm hap.d]
  exact hR

/-! ### Pairs that need no look -/
theorem kind_pure {o : AOper} {e : Env} (h : o.op.isPure = true) : (∃ r, ∀ (call : Cf) a h, (o.kind e).run call a h = T.ofOpt ((Loc.val r).run a h)) := by
  have hop : ∃ r, ∀ (call : Cf) a h, (o.op.kind e).run call a h = T.ofOpt ((Loc.val r).run a h) := by
    cases ho : o.op <;> rw [ho] at h <;> first | (cases h; done) | exact ⟨_, fun _ _ _ => rfl⟩ | exact ⟨some _, fun _ _ _ => rfl⟩
  unfold AOper.kind
  split
  · exact hop
  · split
    · rw [cond_eq_ite]; split
      · exact hop
      · exact ⟨some .undef, fun _ _ _ => by rw [Loc.run_val]; rfl⟩
    · exact ⟨none, fun _ _ _ => by rw [Loc.run_val]; rfl⟩
theorem fp_pure {o : AOper} {e : Env} (h : o.op.isPure = true) (a : Nat) (m : H) : ((o.kind e).run call a m).lv fun r => r.2.2 = .loc [] [] none := by
  obtain ⟨r, hr⟩ := kind_pure (e := e) h
  rw [hr, Loc.run_val]
  cases r <;> trivial
theorem fp_read {o : AOper} {e : Env} (h : o.op.isRead = true) (a : Nat) (m : H) : ((o.kind e).run call a m).lv fun r => ∃ l, r.2.2 = .loc l [] none := by
  have hloc : ∀ op : AOp, op.isRead = true → (T.ofOpt ((opLoc op e).run a m)).lv fun r => ∃ l, r.2.2 = .loc l [] none := by
    intro op h
    refine T.lv_ofOpt.2 ?_
    rintro ⟨v, h', fp⟩ hr
    obtain ⟨bs, v0, ups, nw, hg, hf, he⟩ := loc_run_iff.1 hr
    simp only [Prod.mk.injEq] at he
    obtain ⟨rfl, rfl, rfl⟩ := he
    suffices ups = [] ∧ nw = none by obtain ⟨rfl, rfl⟩ := this; exact ⟨_, rfl⟩
    clear hr hg
    have hval : ∀ (r : Option AV), (Loc.val r).f bs = some (v0, ups, nw) → ups = [] ∧ nw = none := by
      intro r h
      cases r <;> simp [Loc.val] at h
      exact ⟨h.2.1.symm ▸ rfl, h.2.2.symm ▸ rfl⟩
    have hno : ¬ (Loc.no.f bs = some (v0, ups, nw)) := by simp [Loc.no]
    cases op <;> first | (cases h; done) | skip
    all_goals
      simp only [opLoc] at hf
      repeat' split at hf
    all_goals first
      | exact (hno hf).elim
      | exact hval _ hf
      | ((try simp only at hf); (repeat' split at hf))
    all_goals first
      | (cases hf; done)
      | (simp only [Option.map_eq_some_iff] at hf; obtain ⟨q, _, hf⟩ := hf; (try split at hf) <;> (simp only [Prod.mk.injEq] at hf; exact ⟨hf.2.1.symm, hf.2.2.symm⟩); done)
      | (simp only [Option.some.injEq, Prod.mk.injEq] at hf; exact ⟨hf.2.1.symm, hf.2.2.symm⟩)
  have hop : ((o.op.kind e).run call a m).lv fun r => ∃ l, r.2.2 = .loc l [] none := by
    have := hloc o.op h
    cases ho : o.op <;> rw [ho] at h this <;> first | (cases h; done) | exact this
  unfold AOper.kind
  split
  · exact hop
  · split
    · rw [cond_eq_ite]; split
      · exact hop
      · exact ⟨_, rfl⟩
    · trivial
end Go.Ax
