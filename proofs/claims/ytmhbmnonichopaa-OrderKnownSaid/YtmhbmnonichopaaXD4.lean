/-
  The main law: what the abstract machine does, the machine does.
-/
import Derived.Test.YtmhbmnonichopaaXD3
namespace Go.Ax
variable {P : Program} {base : Nat} {tbl : Nat → Option AFn}

theorem fresh_loop {ι : Io} {h : H} {w w1 : World} (hS : RelS P base ι h w) (hb : base ≤ w.heap.size) {e : Env} {tmps : Array Value} (hE : RelE ι e tmps) {ps : Array Tmp} (hps : ∀ t ∈ ps.toList, t < tmps.size) {fn : FuncId} {asg body : Code} {df : Nat}
    (hS1 : RelS P base ι h w1) (hb1 : base ≤ w1.heap.size) (st1 : StepR ι h w ι h w1) :
    RelS P base (ι.put h.next ⟨w1.heap.size, 0, 0⟩) (h.new h.next (.loop .ready none e ps.toList (comp P tmps.size asg) (comp P tmps.size body)))
      (w1.alloc (.loop { state := .ready, pending := none, fn := fn, tmps := tmps, params := ps, assign := asg, body := body, defers := df })) ∧
    StepR ι h w (ι.put h.next ⟨w1.heap.size, 0, 0⟩) (h.new h.next (.loop .ready none e ps.toList (comp P tmps.size asg) (comp P tmps.size body)))
      (w1.alloc (.loop { state := .ready, pending := none, fn := fn, tmps := tmps, params := ps, assign := asg, body := body, defers := df })) := by
  have hn : h.get h.next = none := hS1.none_top (Nat.le_refl _)
  obtain ⟨h1, h2⟩ := hS1.fresh hb1 hn (.loop { state := .ready, pending := none, fn := fn, tmps := tmps, params := ps, assign := asg, body := body, defers := df }) ⟨w1.heap.size, 0, 0⟩ rfl (x := .loop .ready none e ps.toList (comp P tmps.size asg) (comp P tmps.size body)) (by
    refine ⟨hb1, _, heap_alloc_at w1 _, trivial, trivial, hE.ext (Ext.put _ (hS1.unused _ hn)), rfl, rfl, rfl, hps⟩)
  exact ⟨h1, st1.trans h2⟩

theorem rel_boolV {ι : Io} {t : Bool} {v : Value} (h : RelV ι (.bool t) v) : v = .bool t := by cases h; rfl

theorem simC (hT : TblOk P tbl) (hm : P.follows .mixedOrders = true) : ∀ n, SimC P base (exec tbl n) := by
  intro n
  induction n using Nat.strongRecOn with
  | _ n IH =>
  intro c rnd ro nt n0 ι e h a w k Q hr hs hrd
  cases n with
  | zero => exact hr.elim
  | succ n =>
  have ih : SimC P base (exec tbl n) := IH n (Nat.lt_succ_self n)
  have hcall : CallSim P base (callF tbl (exec tbl n)) := callSim hT ih
  have hinv : CInv (callF tbl (exec tbl n)) := callF_inv (exec_inv n)
  have hfr : CFr (callF tbl (exec tbl n)) := callF_frame (exec_inv n) (exec_frame n)
  have hr : (step tbl (exec tbl n) rnd (comp P nt c) e h).all (fun r => Q r.1 r.2.1 r.2.2) := hr
  have ngoto : ∀ l a' w', ¬ Post P base nt n0 Q ι h w (.goto l) a' w' := by
    rintro l a' w' ⟨x, _, _, _, _, hx, _⟩
    cases x <;> exact hx
  cases c with
  | skip => exact wpIn_skip ⟨.normal, e, h, ι, hr, trivial, hs, .refl _ _ _⟩
  | label l => exact wpIn_label ⟨.normal, e, h, ι, hr, trivial, hs, .refl _ _ _⟩
  | exit id => exact wpIn_exit ⟨.exit id, e, h, ι, hr, rfl, hs, .refl _ _ _⟩
  | ret => exact wpIn_ret ⟨.ret, e, h, ι, hr, trivial, hs, .refl _ _ _⟩
  | seq x y =>
    have h1 := (T.all_bind _ _).1 hr
    refine wpIn_seq (wpIn_mono (ih x rnd ro nt n0 ι e h a w k (fun x e h => match x with | .normal => (exec tbl n rnd (comp P nt y) e h).all (fun r => Q r.1 r.2.1 r.2.2) | x => Q x e h) (T.all_mono ?_ h1) hs hrd) ?_)
    · rintro ⟨x1, e1, h1⟩ hx
      cases x1 <;> exact hx
    · rintro ex a1 w1 ⟨x1, e1, h1, ι1, hq, hx, hs1, st1⟩
      cases x1 with
      | normal =>
        cases ex <;> first | exact hx.elim | skip
        exact wpIn_mono (ih y rnd ro nt n0 ι1 e1 h1 a1 w1 k Q hq hs1 (hrd.ext st1.ext)) fun ex a w hp => hp.from st1
      | ret =>
        cases ex <;> first | exact hx.elim | skip
        exact ⟨.ret, e1, h1, ι1, hq, hx, hs1, st1⟩
      | exit id =>
        cases ex <;> first | exact hx.elim | skip
        exact ⟨.exit id, e1, h1, ι1, hq, hx, hs1, st1⟩
  | cond c x y =>
    simp only [comp, step] at hr
    split at hr
    · rename_i t ht
      have hv := ao_rel hs.e c
      rw [ht] at hv
      have hc : a.eval c = .bool t := rel_boolV hv
      refine wpIn_cond hc ?_
      cases t with
      | true => exact ih x rnd ro nt n0 ι e h a w k Q hr hs hrd
      | false => exact ih y rnd ro nt n0 ι e h a w k Q hr hs hrd
    · exact hr.elim
  | block id b =>
    have h1 := (T.all_bind _ _).1 hr
    refine wpIn_block (wpIn_mono (ih b rnd ro nt n0 ι e h a w k (fun x e h => match x with | .exit id' => (if id' = id then Q .normal e h else Q (.exit id') e h) | x => Q x e h) (T.all_mono ?_ h1) hs hrd) ?_)
    · rintro ⟨x1, e1, h1⟩ hx
      cases x1 with
      | exit id' =>
        simp only [cond_eq_ite, Nat.beq_eq] at hx ⊢
        split at hx
        · rename_i he; rw [if_pos he]; exact hx
        · rename_i he; rw [if_neg he]; exact hx
      | _ => exact hx
    · rintro ex a1 w1 ⟨x1, e1, h1, ι1, hq, hx, hs1, st1⟩
      cases x1 with
      | normal =>
        cases ex <;> first | exact hx.elim | skip
        exact ⟨.normal, e1, h1, ι1, hq, hx, hs1, st1⟩
      | ret =>
        cases ex <;> first | exact hx.elim | skip
        exact ⟨.ret, e1, h1, ι1, hq, hx, hs1, st1⟩
      | exit id' =>
        cases ex <;> first | exact hx.elim | skip
        cases hx
        simp only [Exit.inBlock]
        simp only at hq
        split at hq
        · rename_i he; rw [if_pos he]; exact ⟨.normal, e1, h1, ι1, hq, trivial, hs1, st1⟩
        · rename_i he; rw [if_neg he]; exact ⟨.exit id', e1, h1, ι1, hq, rfl, hs1, st1⟩
  | loop b =>
    refine axWpIn_loop (fun j a' w' => j ≤ n + 1 ∧ ∃ ι' e' h', (exec tbl j rnd (.loop (comp P nt b)) e' h').all (fun r => Q r.1 r.2.1 r.2.2) ∧ SimA P base nt n0 ι' e' h' a' w' ∧ StepR ι h w ι' h' w') (n + 1) ⟨Nat.le_refl _, ι, e, h, hr, hs, .refl _ _ _⟩ ?_
    rintro i a1 w1 ⟨hi, ι1, e1, h1, hr1, hs1, st1⟩
    cases i with
    | zero => exact hr1.elim
    | succ i =>
      have h2 := (T.all_bind _ _).1 (show (step tbl (exec tbl i) rnd (.loop (comp P nt b)) e1 h1).all (fun r => Q r.1 r.2.1 r.2.2) from hr1)
      refine wpIn_mono (IH i (by omega) b rnd ro nt n0 ι1 e1 h1 a1 w1 k (fun x e h => match x with | .normal => (exec tbl i rnd (.loop (comp P nt b)) e h).all (fun r => Q r.1 r.2.1 r.2.2) | x => Q x e h) (T.all_mono ?_ h2) hs1 (hrd.ext st1.ext)) ?_
      · rintro ⟨x2, e2, h2⟩ hx
        cases x2 <;> exact hx
      · rintro ex a2 w2 ⟨x2, e2, h2, ι2, hq, hx, hs2, st2⟩
        cases x2 with
        | normal =>
          cases ex <;> first | exact hx.elim | skip
          exact ⟨i, Nat.lt_succ_self i, by omega, ι2, e2, h2, hq, hs2, st1.trans st2⟩
        | ret =>
          cases ex <;> first | exact hx.elim | skip
          exact ⟨.ret, e2, h2, ι2, hq, hx, hs2, st1.trans st2⟩
        | exit id =>
          cases ex <;> first | exact hx.elim | skip
          exact ⟨.exit id, e2, h2, ι2, hq, hx, hs2, st1.trans st2⟩
  | scope b => exact axWpIn_scope ngoto (ih b rnd ro nt n0 ι e h a w k Q hr hs hrd)
  | region id ops draw =>
    cases draw with
    | false =>
      have h1 := (T.all_bind _ _).1 (show ((runSeq (callF tbl (exec tbl n)) (ops.toList.map (compOper P nt ops)) (e, h)).bind fun s => .ret (.normal, s.1, s.2)).all (fun r => Q r.1 r.2.1 r.2.2) from hr)
      exact regionSim hcall hs (T.all_mono (fun s hx => hx) h1)
    | true =>
      have hr : (step tbl (exec tbl n) rnd (compDraw P nt ops) e h).all (fun r => Q r.1 r.2.1 r.2.2) := hr
      have hcases : (∃ l uno, compDraw P nt ops = .draw l uno) ∨ compDraw P nt ops = .bad := by
        unfold compDraw
        simp only
        split
        · exact .inr rfl
        · rw [cond_eq_ite]; split
          · exact .inl ⟨_, _, rfl⟩
          · exact .inr rfl
      rcases hcases with ⟨l, uno, hd⟩ | hd
      · rw [hd] at hr
        have h1 := (T.all_bind _ _).1 (show ((runDraw (callF tbl (exec tbl n)) l uno (e, h)).bind fun s => .ret (.normal, s.1, s.2)).all (fun r => Q r.1 r.2.1 r.2.2) from hr)
        exact drawSim hm hcall hinv hfr hd hs (T.all_mono (fun s hx => hx) h1)
      · rw [hd] at hr; exact hr.elim
  | rangeFunc g ps asg body =>
    simp only [comp, cond_eq_ite] at hr
    split at hr
    · rename_i hps
      have hps' : ∀ t ∈ ps.toList, t < a.tmps.size := fun t ht => by
        have := List.all_eq_true.1 hps t ht
        rw [hs.n]; simpa [Nat.blt_eq] using this
      simp only [step] at hr
      split at hr
      · exact hr.elim
      · rename_i hok
        simp only [Bool.and_eq_true] at hok
        obtain ⟨hround, hfunc⟩ := hok
        have hbind := (T.all_bind _ _).1 hr
        refine wpIn_rangeFunc fun fn _ => ?_
        -- the record is laid
        have hlaid : ∃ (mark : List Deferred) (w1 w2 : World) (r0 : Loop), (Instr.enterLoop fn a.tmps ps asg body (FR ro).round).run P w = .ok (w1.heap.size, mark) w2 ∧ w2 = w1.alloc (.loop r0) ∧
            RelS P base (ι.put h.next ⟨w1.heap.size, 0, 0⟩) (h.new h.next (.loop .ready none e ps.toList (comp P nt asg) (comp P nt body))) w2 ∧
            StepR ι h w (ι.put h.next ⟨w1.heap.size, 0, 0⟩) (h.new h.next (.loop .ready none e ps.toList (comp P nt asg) (comp P nt body))) w2 ∧
            Marks n0 (ι.put h.next ⟨w1.heap.size, 0, 0⟩) (h.new h.next (.loop .ready none e ps.toList (comp P nt asg) (comp P nt body))) (mark ++ a.defers) w2 := by
          cases ro with
          | none =>
            have hS1 := hs.s.alloc (.deferred (some []))
            have st1 : StepR ι h w ι h (w.alloc (.deferred (some []))) := (StepR.refl ι h w).off (by rw [size_alloc']; omega) fun B hB => heap_alloc_lt w _ hB
            have hb1 : base ≤ (w.alloc (.deferred (some []))).heap.size := by rw [size_alloc']; have := hs.b; omega
            obtain ⟨hS2, st2⟩ := fresh_loop (fn := fn) (asg := asg) (body := body) (df := w.heap.size) hs.s hs.b hs.e hps' hS1 hb1 st1
            rw [hs.n] at hS2 st2
            refine ⟨[{ target := .collected w.heap.size, args := #[] }], w.alloc (.deferred (some [])), _, _, ?_, rfl, hS2, st2, ?_⟩
            · rw [size_alloc']
              exact run_enterLoop_outer fn a.tmps ps asg body
            · have hm1 := hs.m.step st2
              have hlt : w.heap.size < (w.alloc (.deferred (some []))).heap.size := by rw [size_alloc']; omega
              refine ⟨fun d hd => ?_, List.pairwise_cons.2 ⟨fun d' hd' => ?_, hm1.2⟩⟩
              · rcases List.mem_cons.1 hd with rfl | hd
                · refine ⟨w.heap.size, rfl, hs.nb, ?_, ?_⟩
                  · rw [heap_alloc_lt _ _ hlt]; exact heap_alloc_at w _
                  · rintro ⟨b, x, p, hb, hmine, hp, hB⟩
                    rw [H.get_new] at hb
                    by_cases e1 : b = h.next
                    · subst e1
                      rw [Io.put_same] at hp; cases hp
                      simp only [size_alloc'] at hB
                      omega
                    · rw [if_neg e1] at hb
                      rw [Io.put_ne ι _ e1] at hp
                      exact not_img_top hs.s (Nat.le_refl _) ⟨b, x, p, hb, hmine, hp, hB⟩
                · exact hm1.1 d hd
              · obtain ⟨r, h1, _, h3, _⟩ := hs.m.1 d' hd'
                have : r < w.heap.size := (Array.getElem?_eq_some_iff.1 h3).1
                rw [h1]
                intro hc
                injection hc with hc
                omega
          | some B =>
            cases rnd with
            | none => exact hrd.elim
            | some l =>
              obtain ⟨p, hp, hpB⟩ := hrd
              have hl : ∃ st pend env ps' asg' body', h.get l = some (.loop st pend env ps' asg' body') := by
                simp only at hround
                split at hround
                · rename_i hg; exact ⟨_, _, _, _, _, _, hg⟩
                · cases hround
              obtain ⟨st', pend', env', ps', asg', body', hl⟩ := hl
              obtain ⟨q, hq, hlt, _, r0, hheap, _⟩ := loop_of hs.s hl
              rw [hp] at hq; cases hq
              rw [hpB] at hheap
              obtain ⟨hS2, st2⟩ := fresh_loop (fn := fn) (asg := asg) (body := body) (df := r0.defers) hs.s hs.b hs.e hps' hs.s hs.b (.refl _ _ _)
              rw [hs.n] at hS2 st2
              exact ⟨[], w, _, _, run_enterLoop_inner hheap fn a.tmps ps asg body, rfl, hS2, st2, hs.m.step st2⟩
        obtain ⟨mark, w1, w2, r0, hent, hw2, hS2, st2, hmk⟩ := hlaid
        have hB2 : base ≤ w2.heap.size := Nat.le_trans hs.b st2.size
        have hyield : RelL (ι.put h.next ⟨w1.heap.size, 0, 0⟩) [.fn (.yield h.next) [] []] [.func (.yield w1.heap.size) #[] #[]] :=
          .cons (.fn (.yield (Io.put_same _ _ _)) rfl (by simp) rfl (by simp)) .nil
        obtain ⟨d, nx, h1, h2, h3, h4⟩ := hcall _ _ _ (a.eval g) _ _ w2 (fun _ h' => match h'.get h.next with
          | some (.loop .busy ..) => False
          | some (.loop _ pend env ps asg body) => (match pend with
            | none => (T.ret (EX.normal, e, h'.put h.next (.loop .exhausted pend env ps asg body)) : T (EX × Env × H))
            | some c => exec tbl n rnd c e (h'.put h.next (.loop .exhausted pend env ps asg body))).all (fun r : EX × Env × H => Q r.1 r.2.1 r.2.2)
          | _ => False) (T.all_mono (by
            rintro ⟨v, h'⟩ hx
            simp only at hx ⊢
            cases hg : h'.get h.next with
            | none => rw [hg] at hx; exact hx.elim
            | some z =>
              rw [hg] at hx
              cases z with
              | loop st _ _ _ _ _ => cases st <;> exact hx
              | _ => exact hx.elim) hbind) hS2 hB2 ((ao_rel hs.e g).ext st2.ext) hyield
        obtain ⟨gf, as, rfl⟩ := h4 hfunc
        refine ⟨w1.heap.size, mark, w2, d, w2, gf, as, w2, hent, ?_, fun _ _ => trivial, h2, FR_depth ro k, (h3 ro (k - 1)).mono ?_⟩
        · have e1 : resolve a.eval (rangeCall g w1.heap.size) 0 = Deferred.ofValue (a.eval g) #[.func (.yield w1.heap.size) #[] #[]] := by simp [resolve, Act.eval]
          rw [e1]; exact h1
        · rintro (v | ch | _) w3 hR
          · obtain ⟨av, h', ι', hq, _, hS3, st3⟩ := hR
            cases hg : h'.get h.next with
            | none => rw [hg] at hq; exact hq.elim
            | some z =>
              rw [hg] at hq
              cases z with
              | loop st' pend' env' ps' asg' body' =>
                obtain ⟨q, hq', hlt, hqb, r, hheap, hst', hpend', hE', hps2, hasg', hbody', hpp⟩ := loop_of hS3 hg
                have hι : ι' h.next = some ⟨w1.heap.size, 0, 0⟩ := st3.ext _ _ (Io.put_same _ _ _)
                rw [hι] at hq'; cases hq'
                have hnb : r.state ≠ .busy := by
                  intro hbz
                  rw [hbz] at hst'
                  cases st' <;> first | exact hst'.elim | exact hq.elim
                have hq : ((match pend' with
                  | none => (T.ret (EX.normal, e, h'.put h.next (.loop .exhausted pend' env' ps' asg' body')) : T (EX × Env × H))
                  | some c => exec tbl n rnd c e (h'.put h.next (.loop .exhausted pend' env' ps' asg' body'))).all (fun r : EX × Env × H => Q r.1 r.2.1 r.2.2)) := by
                  cases st' with
                  | busy => exact hq.elim
                  | _ => exact hq
                refine ⟨r.pending, _, run_endLoop hheap hnb, ?_⟩
                have hB3 : RelB P ι' base (w3.putObj w1.heap.size (.loop { r with state := .exhausted })).heap ⟨w1.heap.size, 0, 0⟩ (.loop .exhausted pend' env' ps' asg' body') :=
                  ⟨hqb, _, World.putObj_heap_same hlt, trivial, hpend', hE', hps2, hasg', hbody', hpp⟩
                obtain ⟨hS4, st4⟩ := hS3.put (w' := w3.putObj w1.heap.size (.loop { r with state := .exhausted })) hg rfl hι (by simp) (fun k hk => World.putObj_heap_other hk) hB3
                have stA := (st2.trans st3).trans st4
                have hA : SimA P base nt n0 ι' e (h'.put h.next (.loop .exhausted pend' env' ps' asg' body')) { a with defers := mark ++ a.defers } (w3.putObj w1.heap.size (.loop { r with state := .exhausted })) :=
                  ⟨hS4, Nat.le_trans hs.b stA.size, hs.e.ext stA.ext, hs.n, (hmk.step st3).step st4, Nat.le_trans hs.nb stA.size⟩
                have hrd' : RndR ι' rnd ro := hrd.ext stA.ext
                have key : ∀ jump, RelPend pend' jump → (match jump with
                    | none => Post P base nt n0 Q ι h w .normal { a with defers := mark ++ a.defers } (w3.putObj w1.heap.size (.loop { r with state := .exhausted }))
                    | some c => c.wpIn (FR ro) k P (Post P base nt n0 Q ι h w) { a with defers := mark ++ a.defers } (w3.putObj w1.heap.size (.loop { r with state := .exhausted }))) := by
                  intro jump hpj
                  cases jump with
                  | none =>
                    cases pend' with
                    | none => exact ⟨.normal, e, _, ι', hq, trivial, hA, stA⟩
                    | some ac => cases ac <;> exact hpj.elim
                  | some c =>
                    cases pend' with
                    | none => exact hpj.elim
                    | some ac =>
                      have hac : ac = comp P nt c := by
                        cases ac <;> cases c <;> first | exact hpj.elim | rfl | (cases hpj; rfl)
                      subst hac
                      exact wpIn_mono (ih c rnd ro nt n0 ι' e _ _ _ k Q hq hA hrd') fun ex a w hp => hp.from stA
                exact key r.pending hpend'
              | _ => exact hq.elim
          · exact hR.elim
          · exact hR.elim
    · exact hr.elim
  | _ => exact hr.elim
end Go.Ax
