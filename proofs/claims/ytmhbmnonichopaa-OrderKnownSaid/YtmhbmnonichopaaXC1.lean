/-
  A block that a run does not know changes nothing in it.
-/
import Derived.Test.YtmhbmnonichopaaXC0
namespace Go.Ax

namespace T
variable {α β γ δ : Type}
/-- the second one ends as the first one does, wherever the first one does -/
def Le (R : α → β → Prop) : T α → T β → Prop
  | .fail, _ => True
  | .ret a, y => ∃ b, y = .ret b ∧ R a b
  | .ask n k, y => ∃ k', y = .ask n k' ∧ ∀ i, i < n → Le R (k i) (k' i)
theorem Le.bind {R : α → β → Prop} {S : γ → δ → Prop} {x : T α} {y : T β} {f : α → T γ} {g : β → T δ} {I : α → Prop} (h : Le R x y) (hx : x.lv I) (hf : ∀ a b, R a b → I a → Le S (f a) (g b)) : Le S (x.bind f) (y.bind g) := by
  induction x generalizing y with
  | fail => trivial
  | ret a => obtain ⟨b, rfl, hr⟩ := h; exact hf a b hr hx
  | ask n k ih => obtain ⟨k', rfl, hk⟩ := h; exact ⟨_, rfl, fun i hi => ih i (hk i hi) (hx i hi)⟩
theorem Le.ofOpt {R : α → β → Prop} {x : Option α} {y : Option β} (h : ∀ a, x = some a → ∃ b, y = some b ∧ R a b) : Le R (T.ofOpt x) (T.ofOpt y) := by
  cases x with
  | none => trivial
  | some a => obtain ⟨b, rfl, hr⟩ := h a rfl; exact ⟨b, rfl, hr⟩
theorem Le.all {R : α → β → Prop} {x : T α} {y : T β} (h : Le R x y) {Q : α → Prop} {Q' : β → Prop} (hq : ∀ a b, R a b → Q a → Q' b) (hx : x.all Q) : y.all Q' := by
  induction x generalizing y with
  | fail => exact hx.elim
  | ret a => obtain ⟨b, rfl, hr⟩ := h; exact hq a b hr hx
  | ask n k ih => obtain ⟨k', rfl, hk⟩ := h; exact ⟨hx.1, fun i hi => ih i (hk i hi) (hx.2 i hi)⟩
theorem Le.mono {R S : α → β → Prop} {x : T α} {y : T β} (h : Le R x y) (hq : ∀ a b, R a b → S a b) : Le S x y := by
  induction x generalizing y with
  | fail => trivial
  | ret a => obtain ⟨b, rfl, hr⟩ := h; exact ⟨b, rfl, hq a b hr⟩
  | ask n k ih => obtain ⟨k', rfl, hk⟩ := h; exact ⟨_, rfl, fun i hi => ih i (hk i hi)⟩
end T

theorem H.ext {a b : H} (h1 : a.next = b.next) (h2 : a.wmin = b.wmin) (h3 : a.m = b.m) : a = b := by
  cases a; cases b; subst h1 h2 h3; rfl
namespace H
theorem put_put (h : H) {b c : Nat} (x y : ABlk) (hne : b ≠ c) : (h.put b x).put c y = (h.put c y).put b x :=
  H.ext rfl (by show min (min h.wmin b) c = min (min h.wmin c) b; omega) (PT.set_comm _ _ _ hne.symm)
theorem put_new (h : H) {b c : Nat} (x y : ABlk) (hne : b ≠ c) : (h.put b x).new c y = (h.new c y).put b x :=
  H.ext rfl rfl (PT.set_comm _ _ _ hne.symm)
theorem new_new (h : H) {b c : Nat} (x y : ABlk) (hne : b ≠ c) : (h.new b x).new c y = (h.new c y).new b x :=
  H.ext (by show max (max h.next (b + 1)) (c + 1) = max (max h.next (c + 1)) (b + 1); omega) rfl (PT.set_comm _ _ _ hne.symm)
theorem puts_put : ∀ (ups : List (Nat × ABlk)) (h : H) {c : Nat} (y : ABlk), (∀ p ∈ ups, p.1 ≠ c) → (h.puts ups).put c y = (h.put c y).puts ups
  | [], _, _, _, _ => rfl
  | (b, x) :: l, h, c, y, hn => by
    show ((h.put b x).puts l).put c y = ((h.put c y).put b x).puts l
    rw [puts_put l _ y fun p hp => hn p (by simp [hp]), put_put h x y (hn (b, x) (by simp))]
theorem puts_new : ∀ (ups : List (Nat × ABlk)) (h : H) {c : Nat} (y : ABlk), (∀ p ∈ ups, p.1 ≠ c) → (h.puts ups).new c y = (h.new c y).puts ups
  | [], _, _, _, _ => rfl
  | (b, x) :: l, h, c, y, hn => by
    show ((h.put b x).puts l).new c y = ((h.new c y).put b x).puts l
    rw [puts_new l _ y fun p hp => hn p (by simp [hp]), put_new h x y (hn (b, x) (by simp))]
theorem puts_puts : ∀ (ups' ups : List (Nat × ABlk)) (h : H), (∀ p ∈ ups, ∀ q ∈ ups', p.1 ≠ q.1) → (h.puts ups).puts ups' = (h.puts ups').puts ups
  | [], _, _, _ => rfl
  | (c, y) :: l, ups, h, hn => by
    show ((h.puts ups).put c y).puts l = ((h.put c y).puts l).puts ups
    rw [puts_put ups h y fun p hp => hn p hp (c, y) (by simp), puts_puts l ups _ fun p hp q hq => hn p hp q (by simp [hq])]
theorem get_puts : ∀ (ups : List (Nat × ABlk)) (h : H) {c : Nat}, (∀ p ∈ ups, p.1 ≠ c) → (h.puts ups).get c = h.get c
  | [], _, _, _ => rfl
  | (b, x) :: l, h, c, hn => by
    show ((h.put b x).puts l).get c = _
    rw [get_puts l _ fun p hp => hn p (by simp [hp]), get_put, if_neg (fun e => hn (b, x) (by simp) e.symm)]
theorem next_puts : ∀ (ups : List (Nat × ABlk)) (h : H), (h.puts ups).next = h.next
  | [], _ => rfl
  | (b, x) :: l, h => by
    show ((h.put b x).puts l).next = _
    rw [next_puts l]; rfl
theorem new_next (h : H) {b : Nat} (x : ABlk) (hb : b < h.next) : (h.new b x).next = h.next := Nat.max_eq_left hb
end H

theorem getAll_congr : ∀ {l : List Nat} {h h' : H}, (∀ b ∈ l, h'.get b = h.get b) → getAll h' l = getAll h l
  | [], _, _, _ => rfl
  | b :: l, h, h', hb => by simp only [getAll]; rw [hb b (by simp), getAll_congr fun c hc => hb c (by simp [hc])]
theorem getAll_new {l : List Nat} {h : H} {b : Nat} {x : ABlk} {bs : List ABlk} (hn : h.get b = none) (hg : getAll h l = some bs) : getAll (h.new b x) l = some bs := by
  rw [getAll_congr (h := h) ?_]
  · exact hg
  · intro c hc
    rw [H.get_new, if_neg]
    intro e; subst e
    have := getAll_isSome hg c hc
    rw [hn] at this; cases this

def outOf (rd : List Nat) (aid : Nat) (h : H) (v0 : AV) (ups : List (Nat × ABlk)) : Option ABlk → AV × H × FP
  | none => (v0, h.puts ups, .loc rd (ups.map (·.1)) none)
  | some x => (atNew aid v0, (h.puts ups).new aid x, .loc rd (ups.map (·.1)) (some aid))
/-- how an operation of memory runs: told by what it read -/
theorem loc_run_of {l : Loc} {aid : Nat} {h : H} {bs : List ABlk} {v0 : AV} {ups : List (Nat × ABlk)} {nw : Option ABlk} (hg : getAll h l.rd = some bs) (hf : l.f bs = some (v0, ups, nw)) :
    l.run aid h = some (outOf l.rd aid h v0 ups nw) := by
  unfold Loc.run
  rw [hg]
  simp only [hf]
  cases nw <;> rfl

theorem lvTrue {α : Type} (x : T α) : x.lv fun _ => True := by
  induction x with
  | ask n k ih => exact fun i _ => ih i
  | _ => trivial

section frame
variable {b : Nat} {x : ABlk}

theorem loc_frame {op : AOp} {e : Env} {aid : Nat} {h h' : H} {v : AV} {fp : FP} (hn : h.get b = none) (ha : aid ≠ b) (hr : (opLoc op e).run aid h = some (v, h', fp)) :
    (opLoc op e).run aid (h.new b x) = some (v, h'.new b x, fp) := by
  obtain ⟨bs, v0, ups, nw, hg, hf, hc⟩ := loc_run_inv hr
  have hu : ∀ p ∈ ups, p.1 ≠ b := fun p hp e => by
    have := getAll_isSome hg _ (loc_ups op _ hf p hp)
    rw [e, hn] at this; cases this
  rw [loc_run_of (getAll_new hn hg) hf]
  rcases hc with ⟨rfl, rfl, rfl, rfl⟩ | ⟨y, rfl, rfl, rfl, rfl⟩
  · simp only [outOf]
    rw [← H.puts_new ups h x hu]
  · simp only [outOf]
    rw [← H.puts_new ups h x hu, H.new_new _ x y ha.symm]

/-- the run beside the added block -/
def Fr (b : Nat) (x : ABlk) (r r' : AV × H) : Prop := r' = (r.1, r.2.new b x)
def Fr3 (b : Nat) (x : ABlk) (r r' : AV × H × FP) : Prop := r' = (r.1, r.2.1.new b x, r.2.2)
def FrS (b : Nat) (x : ABlk) (r r' : St) : Prop := r' = (r.1, r.2.new b x)
def FrSF {γ : Type} (b : Nat) (x : ABlk) (r r' : St × γ) : Prop := r' = ((r.1.1, r.1.2.new b x), r.2)
def FrX (b : Nat) (x : ABlk) (r r' : EX × Env × H) : Prop := r' = (r.1, r.2.1, r.2.2.new b x)

/-- a block that is not there, below what is given out next -/
def Out (b : Nat) (h : H) : Prop := h.get b = none ∧ b < h.next
theorem Out.inv {h h' : H} (ho : Out b h) (hi : Inv h.next h h') : Out b h' := ⟨hi.fresh b ho.2 ho.1, Nat.lt_of_lt_of_le ho.2 hi.nx⟩
theorem Out.get {h : H} (ho : Out b h) {c : Nat} (hc : (h.get c).isSome = true) : (h.new b x).get c = h.get c := by
  rw [H.get_new, if_neg]
  intro e; subst e; rw [ho.1] at hc; cases hc
theorem Out.ne {h : H} (ho : Out b h) {c : Nat} {y : ABlk} (hc : h.get c = some y) : c ≠ b := fun e => by rw [e, ho.1] at hc; cases hc
theorem Out.put {h : H} (ho : Out b h) {c : Nat} {y z : ABlk} (hc : h.get c = some y) : (h.new b x).put c z = (h.put c z).new b x := (H.put_new h z x (ho.ne hc)).symm

def CInv (call : Cf) : Prop := ∀ f l h, (call f l h).lv fun r => Inv h.next h r.2
def CFr (call : Cf) : Prop := ∀ f l h b x, Out b h → T.Le (Fr b x) (call f l h) (call f l (h.new b x))

theorem nextF_frame (it : AV) {h : H} (ho : Out b h) : T.Le (Fr b x) (nextF it h) (nextF it (h.new b x)) := by
  unfold nextF
  split
  · rename_i r
    cases hr : h.get r with
    | none => trivial
    | some y =>
      rw [ho.get (x := x) (by rw [hr]; rfl), hr]
      cases y with
      | iter m since seen last =>
        cases m with
        | none => exact ⟨_, rfl, rfl⟩
        | some m =>
          simp only
          cases hm : h.get m with
          | none => trivial
          | some z =>
            rw [ho.get (x := x) (by rw [hm]; rfl), hm]
            cases z with
            | map es clock =>
              simp only
              split
              · trivial
              · refine ⟨_, rfl, fun i _ => ?_⟩
                simp only
                cases (candidates es since seen)[i]? with
                | none => trivial
                | some q =>
                  cases q with
                  | none => exact ⟨_, rfl, rfl⟩
                  | some q =>
                    refine ⟨_, rfl, ?_⟩
                    show _ = _
                    simp only [ho.put hr]
            | _ => trivial
      | _ => trivial
  · trivial

theorem kind_frame {call : Cf} (hc : CFr call) (o : AOper) (e : Env) {aid : Nat} {h : H} (ho : Out b h) (ha : aid ≠ b) : T.Le (Fr3 b x) ((o.kind e).run call aid h) ((o.kind e).run call aid (h.new b x)) := by
  rcases kind_cases o e with hk | hk | ⟨op, hk⟩ | ⟨f, l, hk⟩ | ⟨it, hk⟩ <;> rw [hk]
  · exact ⟨_, rfl, rfl⟩
  · trivial
  · refine T.Le.ofOpt ?_
    rintro ⟨v, h', fp⟩ hr
    exact ⟨_, loc_frame ho.1 ha hr, rfl⟩
  · have he : ({ h.new b x with wmin := (h.new b x).next } : H) = ({ h with wmin := h.next } : H).new b x := H.ext rfl (by show (h.new b x).next = h.next; exact H.new_next h x ho.2) rfl
    have ho' : Out b ({ h with wmin := h.next } : H) := ho
    refine T.Le.bind (I := fun _ => True) (R := Fr b x) (by rw [he]; exact hc f l _ b x ho') (lvTrue _) ?_
    rintro ⟨v, h'⟩ _ rfl _
    refine ⟨_, rfl, ?_⟩
    show _ = _
    simp only [H.new_next h x ho.2]
    exact Prod.ext rfl (Prod.ext (H.ext rfl rfl rfl) rfl)
  · refine T.Le.bind (I := fun _ => True) (nextF_frame it ho) (lvTrue _) ?_
    rintro ⟨v, h'⟩ _ rfl _
    exact ⟨_, rfl, rfl⟩

theorem stepG_frame {call : Cf} (hc : CFr call) (o : AOper) {aid : Nat} {e : Env} {h : H} (ho : Out b h) (ha : aid ≠ b) : T.Le (FrSF b x) (stepG call aid o (e, h)) (stepG call aid o (e, h.new b x)) := by
  refine T.Le.bind (I := fun _ => True) (kind_frame hc o e ho ha) (lvTrue _) ?_
  rintro ⟨v, h', fp⟩ _ rfl _
  exact ⟨_, rfl, rfl⟩

theorem runSeq_frame {call : Cf} (hi : CInv call) (hc : CFr call) : ∀ (ops : List AOper) {e : Env} {h : H} (_ : Out b h), T.Le (FrS b x) (runSeq call ops (e, h)) (runSeq call ops (e, h.new b x))
  | [], _, _, _ => ⟨_, rfl, rfl⟩
  | o :: l, e, h, ho => by
    have h1 := stepG_frame (x := x) hc o (e := e) ho (Nat.ne_of_gt ho.2)
    refine T.Le.bind (R := FrSF b x) (by show T.Le _ (stepG call h.next o (e, h)) (stepG call (h.new b x).next o (e, h.new b x)); rw [H.new_next h x ho.2]; exact h1) (stepG_inv hi o (e, h) (Nat.le_refl _) (Nat.le_refl _)) ?_
    rintro ⟨⟨e', h'⟩, fp⟩ _ rfl hv
    exact runSeq_frame hi hc l (ho.inv hv)

theorem step1_frame {call : Cf} (hc : CFr call) (b0 : Nat) (ops : List AOper) (uno : List (Nat × Nat)) (i : Nat) {e : Env} {h : H} (fs : PT FP) (ho : Out b h) (hb : b < b0) :
    T.Le (FrSF b x) (step1 call b0 ops uno i (e, h) fs) (step1 call b0 ops uno i (e, h.new b x) fs) := by
  unfold step1
  split
  · trivial
  · refine T.Le.bind (I := fun _ => True) (stepG_frame hc _ ho (by omega)) (lvTrue _) ?_
    rintro ⟨⟨e', h'⟩, fp⟩ _ rfl _
    show T.Le _ (bif okWith uno fs i fp then _ else _) (bif okWith uno fs i fp then _ else _)
    cases okWith uno fs i fp
    · trivial
    · exact ⟨_, rfl, rfl⟩
theorem runFP_frame {call : Cf} (hi : CInv call) (hc : CFr call) (b0 : Nat) (ops : List AOper) (uno : List (Nat × Nat)) : ∀ (l : List Nat) {e : Env} {h : H} (fs : PT FP) (_ : Out b h) (_ : b < b0) (_ : b0 ≤ h.next),
    T.Le (FrS b x) (runFP call b0 ops uno l (e, h) fs) (runFP call b0 ops uno l (e, h.new b x) fs)
  | [], _, _, _, _, _, _ => ⟨_, rfl, rfl⟩
  | i :: l, e, h, fs, ho, hb, hn => by
    refine T.Le.bind (step1_frame hc b0 ops uno i fs ho hb) (step1_inv hi b0 ops uno i (e, h) fs hn) ?_
    rintro ⟨⟨e', h'⟩, fs'⟩ _ rfl hv
    exact runFP_frame hi hc b0 ops uno l fs' ⟨hv.fresh b hb ho.1, Nat.lt_of_lt_of_le ho.2 hv.nx⟩ hb (Nat.le_trans hn hv.nx)
theorem runDraw_frame {call : Cf} (hi : CInv call) (hc : CFr call) (ops : List AOper) (uno : List (Nat × Nat)) {e : Env} {h : H} (ho : Out b h) :
    T.Le (FrS b x) (runDraw call ops uno (e, h)) (runDraw call ops uno (e, h.new b x)) := by
  unfold runDraw
  have he : ({ h.new b x with next := (h.new b x).next + ops.length } : H) = ({ h with next := h.next + ops.length } : H).new b x := by
    have := ho.2
    exact H.ext (by show max h.next (b + 1) + ops.length = max (h.next + ops.length) (b + 1); omega) rfl rfl
  show T.Le _ _ (runFP call (h.new b x).next ops uno _ (e, { h.new b x with next := (h.new b x).next + ops.length }) .nil)
  rw [he, H.new_next h x ho.2]
  exact runFP_frame hi hc _ ops uno _ .nil ⟨ho.1, Nat.lt_of_lt_of_le ho.2 (Nat.le_add_right _ _)⟩ ho.2 (Nat.le_add_right _ _)

theorem resOne_frame {e : Env} {h : H} (ho : Out b h) {r : ARes} {v : AV} (hr : resOne e h r = some v) : resOne e (h.new b x) r = some v := by
  cases r with
  | tmp t => exact hr
  | cell t n =>
    simp only [resOne] at hr ⊢
    split at hr
    · rename_i c o hc
      split at hr
      · rename_i l own hl
        rw [ho.get (x := x) (by rw [hl]; rfl), hl]
        exact hr
      · cases hr
    · cases hr
theorem resAll_frame {e : Env} {h : H} (ho : Out b h) : ∀ {rs : List ARes} {vs : List AV}, resAll e h rs = some vs → resAll e (h.new b x) rs = some vs
  | [], _, hr => hr
  | r :: rs, vs, hr => by
    simp only [resAll] at hr ⊢
    split at hr
    · rename_i v vs' h1 h2
      rw [resOne_frame ho h1, resAll_frame ho h2]
      exact hr
    · cases hr

theorem roundEnd_frame (l : Nat) (y : EX) {h : H} (ho : Out b h) : T.Le (Fr b x) (roundEnd l y h) (roundEnd l y (h.new b x)) := by
  unfold roundEnd
  cases hl : h.get l with
  | none => trivial
  | some z =>
    rw [ho.get (x := x) (by rw [hl]; rfl), hl]
    cases z with
    | loop st pend env ps asg body =>
      cases st <;> try trivial
      simp only
      cases y <;> (refine ⟨_, rfl, ?_⟩; show _ = _; simp only [ho.put hl])
    | _ => trivial

variable {tbl : Nat → Option AFn}
def XInv (ex : Ex) : Prop := ∀ rnd c e h, (ex rnd c e h).lv fun r => Inv h.next h r.2.2
def XFr (ex : Ex) : Prop := ∀ rnd c e h b x, Out b h → T.Le (FrX b x) (ex rnd c e h) (ex rnd c e (h.new b x))

theorem callF_frame {ex : Ex} (hi : XInv ex) (hx : XFr ex) : CFr (callF tbl ex) := by
  intro f args h b x ho
  unfold callF
  split
  · split
    · trivial
    · rw [cond_eq_ite, cond_eq_ite]; split
      · refine T.Le.bind (hx _ _ _ _ b x ho) (hi _ _ _ _) ?_
        rintro ⟨y, e, h'⟩ _ rfl hv
        have ho' : Out b h' := ho.inv hv
        cases y with
        | exit _ => trivial
        | _ =>
          refine T.Le.ofOpt ?_
          intro a ha
          simp only [Option.map_eq_some_iff] at ha
          obtain ⟨vs, hvs, rfl⟩ := ha
          exact ⟨_, by simp only; rw [resAll_frame ho' hvs]; rfl, rfl⟩
      · trivial
  · rename_i l
    cases hl : h.get l with
    | none => trivial
    | some z =>
      rw [ho.get (x := x) (by rw [hl]; rfl), hl]
      cases z with
      | loop st pend env ps asg body =>
        cases st <;> try trivial
        simp only
        cases zipPut env ps args with
        | none => trivial
        | some e =>
          refine T.Le.bind (hx _ _ _ _ b x ho) (hi _ _ _ _) ?_
          rintro ⟨y, e1, h1⟩ _ rfl hv
          have ho1 : Out b h1 := ho.inv hv
          cases y with
          | normal =>
            simp only
            cases hl1 : h1.get l with
            | none => trivial
            | some z1 =>
              rw [ho1.get (x := x) (by rw [hl1]; rfl), hl1]
              cases z1 with
              | loop st1 pend1 env1 ps1 asg1 body1 =>
                cases st1 <;> try trivial
                simp only
                rw [ho1.put hl1]
                have ho2 : Out b (h1.put l (.loop .busy pend1 env1 ps1 asg1 body1)) := ⟨by rw [H.get_put, if_neg (ho1.ne hl1).symm]; exact ho1.1, ho1.2⟩
                refine T.Le.bind (hx _ _ _ _ b x ho2) (hi _ _ _ _) ?_
                rintro ⟨y2, e2, h2⟩ _ rfl hv2
                exact roundEnd_frame _ _ (ho2.inv hv2)
              | _ => trivial
          | _ => trivial
      | _ => trivial
  · trivial

theorem exec_frame : ∀ (n : Nat), XFr (exec tbl n)
  | 0 => fun _ _ _ _ _ _ _ => trivial
  | n + 1 => fun rnd c e h b x ho => by
    have ih := exec_frame n
    have hi : XInv (exec tbl n) := exec_inv n
    have hcall := callF_frame (tbl := tbl) hi ih
    have hcinv : CInv (callF tbl (exec tbl n)) := callF_inv hi
    show T.Le _ (step tbl (exec tbl n) rnd c e h) (step tbl (exec tbl n) rnd c e (h.new b x))
    cases c with
    | skip => exact ⟨_, rfl, rfl⟩
    | seq a c =>
      refine T.Le.bind (ih rnd a e h b x ho) (hi _ _ _ _) ?_
      rintro ⟨y, e', h'⟩ _ rfl hv
      cases y with
      | normal => exact ih rnd c e' h' b x (ho.inv hv)
      | _ => exact ⟨_, rfl, rfl⟩
    | cond c a c' =>
      simp only [step]
      split
      · rename_i t _
        cases t
        · exact ih rnd c' e h b x ho
        · exact ih rnd a e h b x ho
      · trivial
    | block id c =>
      refine T.Le.bind (ih rnd c e h b x ho) (hi _ _ _ _) ?_
      rintro ⟨y, e', h'⟩ _ rfl hv
      cases y with
      | exit id' =>
        simp only [cond_eq_ite]
        split <;> exact ⟨_, rfl, rfl⟩
      | _ => exact ⟨_, rfl, rfl⟩
    | loop c =>
      refine T.Le.bind (ih rnd c e h b x ho) (hi _ _ _ _) ?_
      rintro ⟨y, e', h'⟩ _ rfl hv
      cases y with
      | normal => exact ih rnd _ e' h' b x (ho.inv hv)
      | _ => exact ⟨_, rfl, rfl⟩
    | scope c => exact ih rnd c e h b x ho
    | exit id => exact ⟨_, rfl, rfl⟩
    | ret => exact ⟨_, rfl, rfl⟩
    | region ops =>
      refine T.Le.bind (runSeq_frame hcinv hcall ops ho) (lvTrue _) ?_
      rintro ⟨e', h'⟩ _ rfl _
      exact ⟨_, rfl, rfl⟩
    | draw ops uno =>
      refine T.Le.bind (runDraw_frame hcinv hcall ops uno ho) (lvTrue _) ?_
      rintro ⟨e', h'⟩ _ rfl _
      exact ⟨_, rfl, rfl⟩
    | rangeF f ps asg body =>
      have hr : ∀ (k : Bool) (g : H → T (EX × Env × H)), (T.Le (FrX b x) (g h) (g (h.new b x))) →
          T.Le (FrX b x) (match (match rnd with | none => true | some l => match h.get l with | some (.loop ..) => true | _ => false) && (f.ev e).isFunc with | false => .fail | true => g h)
            (match (match rnd with | none => true | some l => match (h.new b x).get l with | some (.loop ..) => true | _ => false) && (f.ev e).isFunc with | false => .fail | true => g (h.new b x)) := by
        intro _ g hg
        cases (f.ev e).isFunc
        · simp only [Bool.and_false]; trivial
        simp only [Bool.and_true]
        cases rnd with
        | none => exact hg
        | some l =>
          cases hl : h.get l with
          | none => simp only [hl]; trivial
          | some z =>
            simp only [hl, ho.get (x := x) (show (h.get l).isSome = true by rw [hl]; rfl)]
            cases z <;> first | exact hg | trivial
      refine hr true (fun h => (callF tbl (exec tbl n) (f.ev e) [.fn (.yield h.next) [] []] (h.new h.next (.loop .ready none e ps asg body))).bind fun (_, h') =>
        match h'.get h.next with
        | some (.loop .busy ..) => .fail
        | some (.loop _ pend env ps asg body) =>
          match pend with
          | none => .ret (.normal, e, h'.put h.next (.loop .exhausted pend env ps asg body))
          | some c => (exec tbl n) rnd c e (h'.put h.next (.loop .exhausted pend env ps asg body))
        | _ => .fail) ?_
      simp only
      rw [H.new_next h x ho.2, H.new_new h x _ (Nat.ne_of_lt ho.2)]
      have ho1 : Out b (h.new h.next (.loop .ready none e ps asg body)) := ⟨by rw [H.get_new, if_neg (Nat.ne_of_lt ho.2)]; exact ho.1, Nat.lt_of_lt_of_le ho.2 (Nat.le_max_left _ _)⟩
      refine T.Le.bind (hcall _ _ _ b x ho1) (hcinv _ _ _) ?_
      rintro ⟨v, h'⟩ _ rfl hv
      have ho2 : Out b h' := ho1.inv hv
      simp only
      cases hl : h'.get h.next with
      | none => trivial
      | some z =>
        rw [ho2.get (x := x) (by rw [hl]; rfl), hl]
        cases z with
        | loop st pend env ps asg body =>
          have hput : ∀ z, Out b (h'.put h.next z) := fun z => ⟨by rw [H.get_put, if_neg (Nat.ne_of_lt ho.2)]; exact ho2.1, ho2.2⟩
          cases st <;> first
            | trivial
            | (simp only; rw [ho2.put hl]; cases pend with
               | none => exact ⟨_, rfl, rfl⟩
               | some c => exact ih rnd c _ _ b x (hput _))
        | _ => trivial
    | bad => trivial
end frame
end Go.Ax
