/-
  Two operations that have no order may be exchanged.
-/
import Derived.Test.YtmhbmnonichopaaXC1
namespace Go.Ax

def upd (ups : List (Nat × ABlk)) (nw : Option ABlk) (aid : Nat) (h : H) : H := match nw with | none => h.puts ups | some x => (h.puts ups).new aid x
def vOf (aid : Nat) (v : AV) : Option ABlk → AV
  | none => v
  | some _ => atNew aid v
theorem outOf_eq (rd : List Nat) (aid : Nat) (h : H) (v0 : AV) (ups : List (Nat × ABlk)) (nw : Option ABlk) :
    outOf rd aid h v0 ups nw = (vOf aid v0 nw, upd ups nw aid h, .loc rd (ups.map (·.1)) (nw.map fun _ => aid)) := by cases nw <;> rfl
theorem loc_run_iff {l : Loc} {aid : Nat} {h : H} {r : AV × H × FP} : l.run aid h = some r ↔
    ∃ bs v0 ups nw, getAll h l.rd = some bs ∧ l.f bs = some (v0, ups, nw) ∧ r = (vOf aid v0 nw, upd ups nw aid h, .loc l.rd (ups.map (·.1)) (nw.map fun _ => aid)) := by
  constructor
  · intro hr
    obtain ⟨v, h', fp⟩ := r
    obtain ⟨bs, v0, ups, nw, hg, hf, hc⟩ := loc_run_inv hr
    refine ⟨bs, v0, ups, nw, hg, hf, ?_⟩
    rcases hc with ⟨rfl, rfl, rfl, rfl⟩ | ⟨x, rfl, rfl, rfl, rfl⟩ <;> rfl
  · rintro ⟨bs, v0, ups, nw, hg, hf, rfl⟩
    rw [loc_run_of hg hf, outOf_eq]

theorem upd_get {ups : List (Nat × ABlk)} {nw : Option ABlk} {aid c : Nat} {h : H} (h1 : c ∉ ups.map (·.1)) (h2 : nw = none ∨ c ≠ aid) : (upd ups nw aid h).get c = h.get c := by
  have hu : ∀ p ∈ ups, p.1 ≠ c := fun p hp e => h1 (List.mem_map.2 ⟨p, hp, e⟩)
  cases nw with
  | none => exact H.get_puts ups h hu
  | some x =>
    rcases h2 with h2 | h2
    · cases h2
    · show ((h.puts ups).new aid x).get c = _
      rw [H.get_new, if_neg h2, H.get_puts ups h hu]
theorem upd_comm {ups ups' : List (Nat × ABlk)} {nw nw' : Option ABlk} {a a' : Nat} (h : H) (h1 : ∀ c ∈ ups'.map (·.1), c ∉ ups.map (·.1) ∧ (nw = none ∨ c ≠ a)) (h2 : ∀ c ∈ ups.map (·.1), nw' = none ∨ c ≠ a') (hne : a ≠ a') :
    upd ups' nw' a' (upd ups nw a h) = upd ups nw a (upd ups' nw' a' h) := by
  have hp : ∀ g : H, (g.puts ups).puts ups' = (g.puts ups').puts ups := fun g => H.puts_puts ups' ups g fun p hp q hq e => (h1 q.1 (List.mem_map.2 ⟨q, hq, rfl⟩)).1 (List.mem_map.2 ⟨p, hp, e⟩)
  have hn' : ∀ x, nw' = some x → ∀ p ∈ ups, p.1 ≠ a' := fun x hx p hp e => by
    rcases h2 p.1 (List.mem_map.2 ⟨p, hp, rfl⟩) with h | h
    · rw [hx] at h; cases h
    · exact h e
  have hn : ∀ x, nw = some x → ∀ p ∈ ups', p.1 ≠ a := fun x hx p hp e => by
    rcases (h1 p.1 (List.mem_map.2 ⟨p, hp, rfl⟩)).2 with h | h
    · rw [hx] at h; cases h
    · exact h e
  cases nw with
  | none =>
    cases nw' with
    | none => exact hp h
    | some y =>
      show (((h.puts ups).puts ups').new a' y) = ((h.puts ups').new a' y).puts ups
      rw [hp, H.puts_new ups _ y (hn' y rfl)]
  | some x =>
    cases nw' with
    | none =>
      show ((h.puts ups).new a x).puts ups' = ((h.puts ups').puts ups).new a x
      rw [← H.puts_new ups' _ x (hn x rfl), hp]
    | some y =>
      show (((h.puts ups).new a x).puts ups').new a' y = (((h.puts ups').new a' y).puts ups).new a x
      rw [← H.puts_new ups' _ x (hn x rfl), ← H.puts_new ups _ y (hn' y rfl), hp, H.new_new _ x y hne]

theorem apartL_spec {a b : List Nat} (h : apartL a b = true) {c : Nat} (hc : c ∈ a) : c ∉ b := by
  have := List.all_eq_true.1 h c hc
  simpa using this
theorem FP.none_spec {r w : List Nat} {n : Option Nat} (h : (FP.loc r w n).none = true) : r = [] ∧ w = [] ∧ n = Option.none := by
  cases r <;> cases w <;> cases n <;> simp [FP.none] at h ⊢
/-- what compatibility of two operations of memory says -/
theorem compat_loc {r w r' w' : List Nat} {n n' : Option Nat} (hw : ∀ c ∈ w, c ∈ r) (hw' : ∀ c ∈ w', c ∈ r') (h : (FP.loc r w n).compat (.loc r' w' n') = true) :
    (∀ c ∈ r', c ∉ w ∧ c ∉ n.toList) ∧ (∀ c ∈ r, c ∉ w' ∧ c ∉ n'.toList) := by
  unfold FP.compat at h
  simp only [Bool.or_eq_true, Bool.and_eq_true] at h
  rcases h with (h | h) | ⟨h, h'⟩
  · obtain ⟨rfl, rfl, rfl⟩ := FP.none_spec h
    exact ⟨fun c _ => ⟨by simp, by simp⟩, fun c hc => by cases hc⟩
  · obtain ⟨rfl, rfl, rfl⟩ := FP.none_spec h
    exact ⟨(fun c hc => by cases hc), fun c _ => ⟨by simp, by simp⟩⟩
  · constructor
    · intro c hc
      constructor
      · intro hcw
        exact apartL_spec h (c := c) (by simp [hcw]) (by simp [hc])
      · intro hcn
        exact apartL_spec h (c := c) (by simp at hcn ⊢; exact .inr hcn) (by simp [hc])
    · intro c hc
      constructor
      · intro hcw
        exact apartL_spec h' (c := c) (by simp [hcw]) hc
      · intro hcn
        exact apartL_spec h' (c := c) (by simp at hcn ⊢; exact .inr hcn) hc

def LGood (l : Loc) : Prop := ∀ bs v ups nw, l.f bs = some (v, ups, nw) → ∀ p ∈ ups, p.1 ∈ l.rd
theorem opLoc_good (op : AOp) (e : Env) : LGood (opLoc op e) := fun _ _ _ _ h => loc_ups op e h

theorem nw_or {nw : Option ABlk} {a c : Nat} (h : c ∉ (nw.map fun _ => a).toList) : nw = none ∨ c ≠ a := by
  cases nw with
  | none => exact .inl rfl
  | some x => exact .inr (by simpa using h)

theorem swap_loc {l l' : Loc} (g : LGood l) (g' : LGood l') {a a' : Nat} (hne : a ≠ a') {h h1 h2 : H} {v v' : AV} {f f' : FP} (r1 : l.run a h = some (v, h1, f)) (r2 : l'.run a' h1 = some (v', h2, f'))
    (hc : f.compat f' = true) : ∃ h1', l'.run a' h = some (v', h1', f') ∧ l.run a h1' = some (v, h2, f) := by
  obtain ⟨bs, v0, ups, nw, hg, hf, he⟩ := loc_run_iff.1 r1
  obtain ⟨bs', v0', ups', nw', hg', hf', he'⟩ := loc_run_iff.1 r2
  simp only [Prod.mk.injEq] at he he'
  obtain ⟨rfl, rfl, rfl⟩ := he
  obtain ⟨rfl, rfl, rfl⟩ := he'
  have hu : ∀ c ∈ ups.map (·.1), c ∈ l.rd := fun c hc => by obtain ⟨p, hp, rfl⟩ := List.mem_map.1 hc; exact g _ _ _ _ hf p hp
  have hu' : ∀ c ∈ ups'.map (·.1), c ∈ l'.rd := fun c hc => by obtain ⟨p, hp, rfl⟩ := List.mem_map.1 hc; exact g' _ _ _ _ hf' p hp
  obtain ⟨D1, D2⟩ := compat_loc hu hu' hc
  have e1 : getAll h l'.rd = some bs' := by
    rw [← hg']
    exact (getAll_congr fun c hc => upd_get (D1 c hc).1 (nw_or (D1 c hc).2)).symm
  refine ⟨_, loc_run_iff.2 ⟨bs', v0', ups', nw', e1, hf', rfl⟩, loc_run_iff.2 ⟨bs, v0, ups, nw, ?_, hf, ?_⟩⟩
  · rw [← hg]
    exact getAll_congr fun c hc => upd_get (D2 c hc).1 (nw_or (D2 c hc).2)
  · rw [upd_comm h (fun c hc => ⟨(D1 c (hu' c hc)).1, nw_or (D1 c (hu' c hc)).2⟩) (fun c hc => nw_or (D2 c (hu c hc)).2) hne]

/-! ### With a call -/
theorem compat_call_loc {lo : Nat} {q : Bool} {r w : List Nat} {n : Option Nat} (h : (FP.call lo q).compat (.loc r w n) = true) : w = [] ∧ (r = [] ∨ (n = none ∧ q = true ∧ ∀ c ∈ r, c < lo)) := by
  unfold FP.compat at h
  simp only [Bool.or_eq_true] at h
  rcases h with (h | h) | h
  · simp [FP.none] at h
  · obtain ⟨rfl, rfl, rfl⟩ := FP.none_spec h
    exact ⟨rfl, .inl rfl⟩
  · cases w with
    | cons x xs => cases n <;> cases r <;> simp at h
    | nil =>
      refine ⟨rfl, ?_⟩
      cases n with
      | none =>
        simp only [Bool.and_eq_true, List.all_eq_true] at h
        exact .inr ⟨rfl, h.1, fun c hc => (by simpa [Nat.blt_eq] using h.2 c hc)⟩
      | some n =>
        cases r with
        | nil => exact .inl rfl
        | cons x xs => simp at h
theorem compat_loc_call {lo : Nat} {q : Bool} {r w : List Nat} {n : Option Nat} (h : (FP.loc r w n).compat (.call lo q) = true) : w = [] ∧ n = none ∧ (r = [] ∨ (q = true ∧ ∀ c ∈ r, c < lo)) := by
  unfold FP.compat at h
  simp only [Bool.or_eq_true] at h
  rcases h with (h | h) | h
  · obtain ⟨rfl, rfl, rfl⟩ := FP.none_spec h
    exact ⟨rfl, rfl, .inl rfl⟩
  · simp [FP.none] at h
  · cases w with
    | cons x xs => cases n <;> cases r <;> simp at h
    | nil =>
      cases n with
      | none =>
        simp only [Bool.and_eq_true, List.all_eq_true] at h
        exact ⟨rfl, rfl, .inr ⟨h.1, fun c hc => (by simpa [Nat.blt_eq] using h.2 c hc)⟩⟩
      | some n => simp at h

theorem map_nil' {ups : List (Nat × ABlk)} (h : ups.map (·.1) = []) : ups = [] := List.map_eq_nil_iff.1 h
theorem nw_nil {nw : Option ABlk} {a : Nat} (h : (nw.map fun _ => a) = none) : nw = none := by cases nw <;> simp_all

/-- the heap behind a call, as the operation leaves it -/
def aft (h h' : H) : H := { h' with wmin := min h.wmin h'.wmin }
def fpC (h h' : H) : FP := .call h.next (Nat.ble h.next h'.wmin)
theorem aft_get (h h' : H) (b : Nat) : (aft h h').get b = h'.get b := rfl

variable {call : Cf}
/-- what a quiet call leaves unread -/
theorem quiet_reads {h h' : H} (hi : Inv h.next { h with wmin := h.next } h') {rd : List Nat} (hq : rd = [] ∨ (Nat.ble h.next h'.wmin = true ∧ ∀ c ∈ rd, c < h.next)) : getAll (aft h h') rd = getAll h rd := by
  rcases hq with rfl | ⟨hq, hr⟩
  · rfl
  · refine getAll_congr fun c hc => ?_
    exact hi.same c (hr c hc) (Nat.lt_of_lt_of_le (hr c hc) (Nat.le_of_ble_eq_true hq))

theorem swap_call_loc (hi : CInv call) (hfr : CFr call) {l : Loc} {f : AV} {args : List AV} {a : Nat} {h : H} (ho : Out a h) {R : AV → AV → H → FP → FP → Prop}
    (H1 : (call f args { h with wmin := h.next }).all fun r => ∃ v' h2 fi, l.run a (aft h r.2) = some (v', h2, fi) ∧ (fpC h r.2).compat fi = true ∧ R r.1 v' h2 (fpC h r.2) fi) :
    ∃ v' h1 fi, l.run a h = some (v', h1, fi) ∧ (call f args { h1 with wmin := h1.next }).all fun r => R r.1 v' (aft h1 r.2) (fpC h1 r.2) fi := by
  have H2 := T.all_lv H1 (hi f args _)
  obtain ⟨⟨v, h'⟩, ⟨v', h2, fi, hr, hc, hR⟩, hv⟩ := T.all_some H2
  obtain ⟨bs, v0, ups, nw, hg, hf, he⟩ := loc_run_iff.1 hr
  simp only [Prod.mk.injEq] at he
  obtain ⟨rfl, rfl, rfl⟩ := he
  obtain ⟨hu, hq⟩ := compat_call_loc hc
  have hu := map_nil' hu
  subst hu
  have hrd : ∀ h', Inv h.next { h with wmin := h.next } h' → (fpC h h').compat (.loc l.rd [] (nw.map fun _ => a)) = true → getAll (aft h h') l.rd = getAll h l.rd := by
    intro h' hv hc
    obtain ⟨_, hq⟩ := compat_call_loc hc
    refine quiet_reads (h := h) hv ?_
    rcases hq with hq | ⟨_, hq, hr⟩
    · exact .inl hq
    · exact .inr ⟨hq, hr⟩
  have hg0 : getAll h l.rd = some bs := by rw [← hrd h' hv hc]; exact hg
  have hrun : l.run a h = some (vOf a v0 nw, upd [] nw a h, .loc l.rd [] (nw.map fun _ => a)) := loc_run_iff.2 ⟨bs, v0, [], nw, hg0, hf, rfl⟩
  refine ⟨_, _, _, hrun, ?_⟩
  -- at every end the operation gives the same
  have H3 : (call f args { h with wmin := h.next }).all fun r => R r.1 (vOf a v0 nw) (upd [] nw a (aft h r.2)) (fpC h r.2) (.loc l.rd [] (nw.map fun _ => a)) := by
    refine T.all_mono ?_ H2
    rintro ⟨v, h'⟩ ⟨⟨v', h2, fi, hr, hc, hR⟩, hv⟩
    obtain ⟨bs', v0', ups', nw', hg', hf', he⟩ := loc_run_iff.1 hr
    simp only [Prod.mk.injEq] at he
    obtain ⟨rfl, rfl, rfl⟩ := he
    have hbs : bs' = bs := by
      have : getAll (aft h h') l.rd = getAll h l.rd := by
        obtain ⟨_, hq⟩ := compat_call_loc hc
        refine quiet_reads (h := h) hv ?_
        rcases hq with hq | ⟨_, hq, hr⟩
        · exact .inl hq
        · exact .inr ⟨hq, hr⟩
      have h3 : some bs' = some bs := by rw [← hg', ← hg0]; exact this
      exact Option.some.inj h3
    subst hbs
    rw [hf] at hf'
    simp only [Option.some.injEq, Prod.mk.injEq] at hf'
    obtain ⟨rfl, rfl, rfl⟩ := hf'
    exact hR
  cases nw with
  | none => exact H3
  | some x =>
    have hnx : (h.new a x).next = h.next := H.new_next h x ho.2
    have he : ({ h.new a x with wmin := (h.new a x).next } : H) = ({ h with wmin := h.next } : H).new a x := H.ext rfl hnx rfl
    show (call f args ({ h.new a x with wmin := (h.new a x).next } : H)).all _
    rw [he]
    refine T.Le.all (hfr f args { h with wmin := h.next } a x ho) ?_ H3
    rintro ⟨v, h'⟩ _ rfl hR
    have e2 : fpC (h.new a x) (h'.new a x) = fpC h h' := by unfold fpC; rw [hnx]; rfl
    have e3 : aft (h.new a x) (h'.new a x) = upd [] (some x) a (aft h h') := H.ext rfl rfl rfl
    show R v _ (aft (h.new a x) (h'.new a x)) (fpC (h.new a x) (h'.new a x)) _
    rw [e2, e3]
    exact hR

theorem swap_loc_call (hi : CInv call) {l : Loc} {f : AV} {args : List AV} {a : Nat} {h h1 : H} {v : AV} {fj : FP} {R : AV → AV → H → FP → FP → Prop} (hr : l.run a h = some (v, h1, fj))
    (H1 : (call f args { h1 with wmin := h1.next }).all fun r => fj.compat (fpC h1 r.2) = true ∧ R v r.1 (aft h1 r.2) fj (fpC h1 r.2)) :
    (call f args { h with wmin := h.next }).all fun r => ∃ v' h2 fj', l.run a (aft h r.2) = some (v', h2, fj') ∧ R v' r.1 h2 fj' (fpC h r.2) := by
  obtain ⟨bs, v0, ups, nw, hg, hf, he⟩ := loc_run_iff.1 hr
  simp only [Prod.mk.injEq] at he
  obtain ⟨rfl, rfl, rfl⟩ := he
  obtain ⟨⟨v', h'⟩, hc, _⟩ := T.all_some H1
  obtain ⟨hu, hn, hq⟩ := compat_loc_call hc
  have hu := map_nil' hu
  have hn := nw_nil hn
  subst hu; subst hn
  have H2 := T.all_lv H1 (hi f args _)
  refine T.all_mono ?_ H2
  rintro ⟨v', h'⟩ ⟨⟨hc, hR⟩, hv⟩
  obtain ⟨_, _, hq⟩ := compat_loc_call hc
  refine ⟨_, _, _, loc_run_iff.2 ⟨bs, v0, [], none, ?_, hf, rfl⟩, hR⟩
  rw [← hg]
  exact quiet_reads (h := h) hv hq
end Go.Ax
