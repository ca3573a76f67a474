/-
  One operation of the machine against one of the abstract machine.
-/
import Derived.Test.YtmhbmnonichopaaXD0
namespace Go.Ax
variable {P : Program} {base : Nat}

def Marks (n0 : Nat) (ι : Io) (h : H) (l : List Deferred) (w : World) : Prop :=
  (∀ d ∈ l, ∃ r, d.target = .collected r ∧ n0 ≤ r ∧ w.heap[r]? = some (.deferred (some [])) ∧ ¬ Img ι h r) ∧ l.Pairwise fun d d' => d.target ≠ d'.target

structure SimA (P : Program) (base nt n0 : Nat) (ι : Io) (e : Env) (h : H) (a : Act) (w : World) : Prop where
  s : RelS P base ι h w
  b : base ≤ w.heap.size
  e : RelE ι e a.tmps
  n : a.tmps.size = nt
  m : Marks n0 ι h a.defers w
  nb : n0 ≤ w.heap.size

def ExR : EX → Exit → Prop
  | .normal, .normal => True
  | .ret, .ret => True
  | .exit id, .exit id' => id = id'
  | _, _ => False

def Post (P : Program) (base nt n0 : Nat) (Q : EX → Env → H → Prop) (ι0 : Io) (h0 : H) (w0 : World) (ex : Exit) (a : Act) (w : World) : Prop :=
  ∃ x e h ι, Q x e h ∧ ExR x ex ∧ SimA P base nt n0 ι e h a w ∧ StepR ι0 h0 w0 ι h w

def RndR (ι : Io) : Option Nat → Option Nat → Prop
  | none, none => True
  | some l, some B => ∃ p, ι l = some p ∧ p.B = B
  | _, _ => False
theorem RndR.ext {ι ι' : Io} (he : Ext ι ι') {x y : Option Nat} (h : RndR ι x y) : RndR ι' x y := by
  cases x <;> cases y <;> first | trivial | exact h.elim | (obtain ⟨p, hp, hb⟩ := h; exact ⟨p, he _ _ hp, hb⟩)

theorem Marks.step {n0 : Nat} {ι ι' : Io} {h h' : H} {l : List Deferred} {w w' : World} (hm : Marks n0 ι h l w) (st : StepR ι h w ι' h' w') : Marks n0 ι' h' l w' :=
  ⟨fun d hd => by
    obtain ⟨r, h1, h2, h3, h4⟩ := hm.1 d hd
    have hlt : r < w.heap.size := (Array.getElem?_eq_some_iff.1 h3).1
    obtain ⟨h5, h6⟩ := st.fr r hlt h4
    exact ⟨r, h1, h2, by rw [h5]; exact h3, h6⟩, hm.2⟩

theorem Post.from {nt n0 : Nat} {Q : EX → Env → H → Prop} {ι0 ι1 : Io} {h0 h1 : H} {w0 w1 : World} {ex : Exit} {a : Act} {w : World} (st : StepR ι0 h0 w0 ι1 h1 w1) (hp : Post P base nt n0 Q ι1 h1 w1 ex a w) : Post P base nt n0 Q ι0 h0 w0 ex a w := by
  obtain ⟨x, e, h, ι, h1, h2, h3, h4⟩ := hp
  exact ⟨x, e, h, ι, h1, h2, h3, st.trans h4⟩

theorem SimA.step {nt n0 : Nat} {ι ι' : Io} {e e' : Env} {h h' : H} {a : Act} {w w' : World} (hs : SimA P base nt n0 ι e h a w) (st : StepR ι h w ι' h' w') (hS : RelS P base ι' h' w') {d : Option Nat} {v' : Value} (hE : RelE ι' e' (a.put d v').tmps) :
    SimA P base nt n0 ι' e' h' (a.put d v') w' := by
  refine ⟨hS, Nat.le_trans hs.b st.size, hE, ?_, ?_, Nat.le_trans hs.nb st.size⟩
  · cases d with
    | none => exact hs.n
    | some t => simp only [Act.put, Array.size_setIfInBounds]; exact hs.n
  · have : (a.put d v').defers = a.defers := by cases d <;> rfl
    rw [this]; exact hs.m.step st

/-- nothing known is put -/
theorem RelE.put_undef {ι : Io} {e : Env} {a : Act} (h : RelE ι e a.tmps) (dst : Option Nat) (v' : Value) : RelE ι (e.put dst .undef) (a.put dst v').tmps := by
  cases dst with
  | none => exact h
  | some d =>
    intro t
    rw [Env.get_put_some]
    by_cases e1 : t = d
    · rw [if_pos e1]; exact .undef _
    · rw [if_neg e1]
      simp only [Act.put]
      rw [Array.getD_eq_getD_getElem?, Array.getElem?_setIfInBounds, if_neg (Ne.symm e1), ← Array.getD_eq_getD_getElem?]
      exact h t

/-- what a call hands back -/
def RetR (P : Program) (base : Nat) (Q : AV → H → Prop) (ι : Io) (h : H) (w : World) : Ending → World → Prop
  | .returned v, w' => ∃ av h' ι', Q av h' ∧ RelV ι' av v ∧ RelS P base ι' h' w' ∧ StepR ι h w ι' h' w'
  | _, _ => False

def UpOk (P : Program) (base : Nat) (Q : AV → H → Prop) (ι : Io) (h : H) (w : World) : Next → Prop
  | .enter g args => ∀ ro k, CallsIn (FR ro) k P g args w (RetR P base Q ι h w)
  | .round l f tmps asg body => ∀ ro k, RoundIn (FR ro) k P l f tmps asg body w (RetR P base Q ι h w)
  | _ => False

/-- calls answer -/
def CallSim (P : Program) (base : Nat) (call : Cf) : Prop :=
  ∀ (f : AV) (args : List AV) (h : H) (fv : Value) (argsv : List Value) (ι : Io) (w : World) (Q : AV → H → Prop), (call f args h).all (fun r => Q r.1 r.2) → RelS P base ι h w → base ≤ w.heap.size → RelV ι f fv → RelL ι args argsv →
    ∃ d nx, (Deferred.ofValue fv argsv.toArray).run P w = .ok d w ∧ (invoke d.target d.args).run P w = .ok nx w ∧ UpOk P base Q ι h w nx ∧ (f.isFunc = true → ∃ g as, nx = .enter g as)

theorem callOp_call {c : Call} {f : AO} {args : List AO} (h : callOp P c = .call f args) : ∃ g, c.callee = .value g ∧ f = ao g ∧ args = c.args.toList.map ao := by
  unfold callOp at h
  split at h
  · rename_i g hg; cases h; exact ⟨g, hg, rfl, rfl⟩
  · cases h
  · simp only at h
    repeat' split at h
    all_goals cases h
theorem callOp_next {c : Call} {x : AO} (h : callOp P c = .next x) : False := by
  unfold callOp at h
  split at h
  · cases h
  · cases h
  · simp only at h
    repeat' split at h
    all_goals cases h
theorem eqOp_call {neg : Bool} {t : TypeId} {x y : AO} {f : AO} {args : List AO} (h : eqOp P neg t x y = .call f args) : False := by
  unfold eqOp at h
  repeat' split at h
  all_goals cases h
theorem eqOp_next {neg : Bool} {t : TypeId} {x y : AO} {f : AO} (h : eqOp P neg t x y = .next f) : False := by
  unfold eqOp at h
  repeat' split at h
  all_goals cases h
theorem compOp_call {o : Oper} {f : AO} {args : List AO} (h : compOp P o = .call f args) : ∃ c g, o.op = .call c ∧ c.callee = .value g ∧ f = ao g ∧ args = c.args.toList.map ao := by
  unfold compOp at h
  split at h
  all_goals first
    | (cases h; done)
    | (obtain ⟨g, h1, h2, h3⟩ := callOp_call h; exact ⟨_, g, by assumption, h1, h2, h3⟩)
    | ((repeat' split at h) <;> first | (cases h; done) | exact (eqOp_call h).elim)
theorem compOp_next {o : Oper} {x : AO} (h : compOp P o = .next x) : ∃ y, o.op = .next y false ∧ x = ao y := by
  unfold compOp at h
  split at h
  all_goals first
    | (cases h; done)
    | exact (callOp_next h).elim
    | (cases h; exact ⟨_, by assumption, rfl⟩)
    | ((repeat' split at h) <;> first | (cases h; done) | exact (eqOp_next h).elim)
theorem compOp_defer {o : Oper} {c : Call} (h : o.op = .defer c) : compOp P o = .bad := by
  simp only [compOp, h]

theorem op_kind_cases (op : AOp) (e : Env) : (∃ f args, op = .call f args) ∨ (∃ it, op = .next it) ∨ op.kind e = .loc (opLoc op e) := by
  cases op <;> first | exact .inl ⟨_, _, rfl⟩ | exact .inr (.inl ⟨_, rfl⟩) | exact .inr (.inr rfl)

theorem bad_all {call : Cf} {aid : Nat} {e : Env} {h : H} {Q : AV × H × FP → Prop} (hr : ((AOp.bad.kind e).run call aid h).all Q) : False := by
  have hr : (T.ofOpt (Loc.no.run aid h)).all Q := hr
  rw [Loc.run_no] at hr
  exact hr
/-- one operation that is wanted -/
theorem opSim {call : Cf} (hcall : CallSim P base call) {ops : Array Oper} {o : Oper} {nt n0 : Nat} {ι : Io} {e : Env} {h : H} {a : Act} {w : World} {aid k : Nat} {ro : Option Nat}
    (hs : SimA P base nt n0 ι e h a w) (hn : h.get aid = none) {Q : Exit → Act → World → Prop} {K : Act → World → Prop} {K' : Env → H → FP → Prop}
    (hd : ∀ t, o.dst = some t → t < nt)
    (hK : ∀ ι' e' h' a' w' fp, K' e' h' fp → SimA P base nt n0 ι' e' h' a' w' → StepR ι h w ι' h' w' → K a' w')
    (hr : (((compOp P o).kind e).run call aid h).all fun r => K' (e.put o.dst r.1) r.2.1 r.2.2) : o.wpIn (FR ro) k P a w K Q := by
  refine ⟨fun _ _ => trivial, ?_⟩
  have hdef : ∀ c, o.op ≠ .defer c := by
    intro c hc
    rw [compOp_defer hc] at hr
    exact (bad_all hr).elim
  rw [Oper.semAt_eq _ _ _ hdef]
  have hd' : ∀ t, o.dst = some t → t < a.tmps.size := by rw [hs.n]; exact hd
  rcases op_kind_cases (compOp P o) e with ⟨f, args, hop⟩ | ⟨it, hop⟩ | hk
  · rw [hop] at hr
    obtain ⟨c, g, ho, hcal, rfl, rfl⟩ := compOp_call hop
    have hr := (T.all_bind _ _).1 (show ((call ((ao g).ev e) ((c.args.toList.map ao).map (·.ev e)) { h with wmin := h.next }).bind fun r => .ret (r.1, aft h r.2, fpC h r.2)).all _ from hr)
    have hS' : RelS P base ι { h with wmin := h.next } w := hs.s.same (fun _ => rfl) (Nat.le_refl _) rfl
    obtain ⟨d, nx, h1, h2, h3, _⟩ := hcall _ _ _ (a.eval g) (c.args.toList.map a.eval) ι w (fun v h' => K' (e.put o.dst v) (aft h h') (fpC h h')) hr hS' hs.b (ao_rel hs.e g) (ao_relL hs.e _)
    have hrun : (execOp a.eval o).run P w = .ok nx w := by
      simp only [execOp, ho, resolve, hcal, Sem.run_bind]
      have : c.args.map a.eval = (c.args.toList.map a.eval).toArray := by rw [← Array.toList_map]
      rw [this, h1]
      simpa using h2
    rw [hrun]
    have key : ∀ v w', RetR P base (fun v h' => K' (e.put o.dst v) (aft h h') (fpC h h')) ι { h with wmin := h.next } w (.returned v) w' → K (a.put o.dst v) w' := by
      rintro v w' ⟨av, h', ι', hq, hv, hS2, st⟩
      have hS3 : RelS P base ι' (aft h h') w' := hS2.same (fun _ => rfl) (Nat.le_refl _) rfl
      have st' : StepR ι h w ι' (aft h h') w' := ⟨st.ext, st.size, st.fr, st.os⟩
      exact hK ι' _ _ _ w' _ hq (hs.step st' hS3 ((hs.e.ext st.ext).put hv o.dst hd')) st'
    cases nx with
    | enter gf as =>
      rw [Oper.uponIn_enter]
      refine ⟨FR_depth ro k, (h3 ro (k - 1)).mono ?_⟩
      rintro (v | ch | _) w' hR
      · exact key v w' hR
      · exact hR.elim
      · exact hR.elim
    | round l f tmps asg body =>
      rw [Oper.uponIn_round]
      refine ⟨FR_depth ro k, (h3 ro (k - 1)).mono ?_⟩
      rintro (v | ch | _) w' hR
      · exact key v w' hR
      · exact hR.elim
      · exact hR.elim
    | _ => exact h3.elim
  · rw [hop] at hr
    obtain ⟨y, ho, rfl⟩ := compOp_next hop
    have hr := (T.all_bind _ _).1 (show ((nextF ((ao y).ev e) h).bind fun r => T.ret (r.1, r.2, FP.big)).all (fun r => K' (e.put o.dst r.1) r.2.1 r.2.2) from hr)
    obtain ⟨v, v', h', w', h1, h2, h3, h4, h5⟩ := next_sim hs.s (ao_rel hs.e y) (Q := fun v h' => K' (e.put o.dst v) h' .big) hr o.type
    have hrun : (execOp a.eval o).run P w = .ok (.value v') w' := by
      simp only [execOp, ho, Sem.run_bind, h1]
      rfl
    rw [hrun, Oper.uponIn_value]
    exact hK ι _ _ _ w' _ h2 (hs.step h5 h4 (hs.e.put h3 o.dst hd')) h5
  · rw [hk] at hr
    obtain ⟨⟨v, h', fp⟩, hrun, hq⟩ := T.all_ofOpt.1 hr
    obtain ⟨n, v', w', ι', h1, h2, h3, h4, h5⟩ := op_sim o ι e h w a aid v h' fp hs.s hs.b hs.e hn hrun
    rw [h1]
    have fin : K (a.put o.dst v') w' := hK ι' _ _ _ w' _ hq (hs.step h5 h4 ((hs.e.ext h5.ext).put h3 o.dst hd')) h5
    rcases h2 with rfl | ⟨rfl, rfl⟩
    · rw [Oper.uponIn_value]; exact fin
    · rw [Oper.uponIn_skip]; exact fin

theorem bool_of_rel {ι : Io} {e : Env} {tmps : Array Value} (hE : RelE ι e tmps) {t : Nat} {b : Bool} (h : e.get t = .bool b) : tmps[t]? = some (.bool b) := by
  have hv := hE t
  rw [h] at hv
  cases ht : tmps[t]? with
  | none =>
    rw [Array.getD_eq_getD_getElem?, ht] at hv
    simp only [Option.getD_none, undef] at hv
    cases hv
  | some x =>
    rw [Array.getD_eq_getD_getElem?, ht] at hv
    simp only [Option.getD_some] at hv
    cases hv
    rfl

/-- one operation of a region -/
theorem operSim {call : Cf} (hcall : CallSim P base call) {ops : Array Oper} {i : Nat} {o : Oper} (ho : ops[i]? = some o) {nt n0 : Nat} {ι : Io} {e : Env} {h : H} {a : Act} {w : World} {aid k : Nat} {ro : Option Nat}
    (hs : SimA P base nt n0 ι e h a w) (hn : h.get aid = none) {Q : Exit → Act → World → Prop} {K : Act → World → Prop} {K' : Env → H → FP → Prop}
    (hK : ∀ ι' e' h' a' w' fp, K' e' h' fp → SimA P base nt n0 ι' e' h' a' w' → StepR ι h w ι' h' w' → K a' w')
    (hr : (stepG call aid (compOper P nt ops o) (e, h)).all fun r => K' r.1.1 r.1.2 r.2) : wpOpIn (FR ro) k P ops Q i K a w := by
  have hr := stepG_all.1 hr
  unfold wpOpIn
  simp only [ho]
  have hdst : (compOper P nt ops o).dst = o.dst := by
    unfold compOper
    simp only
    split
    · rfl
    · split <;> rfl
  rw [hdst] at hr
  -- the operation itself
  have main : ((((match o.dst with | none => compOp P o | some t => bif Nat.blt t nt then compOp P o else .bad) : AOp).kind e).run call aid h).all (fun r => K' (e.put o.dst r.1) r.2.1 r.2.2) → o.wpIn (FR ro) k P a w K Q := by
    intro hr
    cases hd : o.dst with
    | none =>
      rw [hd] at hr
      exact opSim (ops := ops) hcall hs hn (by rw [hd]; intro t ht; cases ht) hK (by rw [hd]; exact hr)
    | some t =>
      rw [hd] at hr
      simp only at hr
      cases hlt : Nat.blt t nt with
      | true =>
        rw [hlt] at hr
        exact opSim (ops := ops) hcall hs hn (by rw [hd]; intro u hu; cases hu; simpa [Nat.blt_eq] using hlt) hK (by rw [hd]; exact hr)
      | false =>
        rw [hlt] at hr
        exact (bad_all hr).elim
  cases hg : o.guard with
  | none =>
    have hw : Region.wanted o (yielded ops a.tmps) = true := by simp [Region.wanted, hg]
    rw [if_pos hw]
    refine main ?_
    have : compOper P nt ops o = ⟨o.dst, (match o.dst with | none => compOp P o | some t => bif Nat.blt t nt then compOp P o else .bad), none⟩ := by
      unfold compOper; simp only [hg]; rfl
    rw [this] at hr
    exact hr
  | some p =>
    obtain ⟨j, want⟩ := p
    cases ht : (ops[j]?).bind (·.dst) with
    | none =>
      have : compOper P nt ops o = ⟨o.dst, .bad, none⟩ := by
        unfold compOper; simp only [hg, ht]
      rw [this] at hr
      exact (bad_all hr).elim
    | some t =>
      have hco : compOper P nt ops o = ⟨o.dst, (match o.dst with | none => compOp P o | some t => bif Nat.blt t nt then compOp P o else .bad), some (t, want)⟩ := by
        unfold compOper; simp only [hg, ht]; rfl
      rw [hco] at hr
      unfold AOper.kind at hr
      simp only at hr
      split at hr
      · rename_i b hb
        have hyt : yielded ops a.tmps j = some b := by
          unfold yielded
          rw [ht]
          simp only [Option.bind_some]
          rw [bool_of_rel hs.e hb]
        have hw : Region.wanted o (yielded ops a.tmps) = (b == want) := by
          simp only [Region.wanted, hg, hyt]
          cases b <;> cases want <;> rfl
        cases hbw : (b == want) with
        | true =>
          rw [hw, hbw, if_pos rfl]
          rw [hbw] at hr
          exact main hr
        | false =>
          rw [hw, hbw, if_neg (by simp)]
          rw [hbw] at hr
          refine ⟨fun _ _ => trivial, ?_⟩
          exact hK ι _ _ _ w _ hr (hs.step (.refl _ _ _) hs.s (hs.e.put_undef o.dst _)) (.refl _ _ _)
      · exact hr.elim
end Go.Ax
