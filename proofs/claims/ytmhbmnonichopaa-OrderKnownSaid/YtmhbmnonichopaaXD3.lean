/-
  Code: what the abstract machine does the machine does.
-/
import Derived.Test.YtmhbmnonichopaaXD2
namespace Go
section
variable {F : Fence} {n : Nat} {P : Program} {Q : Exit → Act → World → Prop} {a : Act} {w : World}
theorem axWpIn_loop {c : Code} (J : Nat → Act → World → Prop) (j0 : Nat) (h₀ : J j0 a w)
    (round : ∀ i a w, J i a w → c.wpIn F n P (Exit.then (fun a' w' => ∃ i', i' < i ∧ J i' a' w') Q) a w) : (Code.loop c).wpIn F n P Q a w := by
  intro b k cs hro hb hr
  have key : ∀ j a w, J j a w →
      ∃ e a' w', Q e a' w' ∧ ArrivesIn (Machine.fenced P F) P (lone (b.atR a (.code c :: .inLoop c :: k)) cs w) b k cs e a' w' := by
    intro j
    induction j using Nat.strongRecOn with
    | _ j ih =>
      intro a w hI
      obtain ⟨e, a₁, w₁, hq, harr⟩ := round j a w hI b (.inLoop c :: k) cs hro hb hr
      cases e with
      | normal =>
        obtain ⟨i', hlt, hI₁⟩ := hq
        obtain ⟨e₂, a₂, w₂, hq₂, harr₂⟩ := ih i' hlt a₁ w₁ hI₁
        exact ⟨e₂, a₂, w₂, hq₂, .of_steps (StepsIn.trans harr (.one (fenced_calm hb hr rfl) stepR_inLoop)) harr₂⟩
      | exit id => exact ⟨_, a₁, w₁, hq, .pass (x := .inLoop c) rfl (fun _ _ => .inl (by simp)) harr⟩
      | goto l => exact ⟨_, a₁, w₁, hq, .pass (x := .inLoop c) rfl (fun _ _ => .inl (by simp)) harr⟩
      | ret => exact ⟨_, a₁, w₁, hq, .pass (x := .inLoop c) rfl (fun _ _ => .inl (by simp)) harr⟩
      | panic ch => exact ⟨_, a₁, w₁, hq, .pass (x := .inLoop c) rfl (fun _ _ => .inl (by simp)) harr⟩
      | outgrown => exact ⟨_, a₁, w₁, hq, .pass (x := .inLoop c) rfl (fun _ _ => .inl (by simp)) harr⟩
  obtain ⟨e, a', w', hq, harr⟩ := key j0 a w h₀
  exact ⟨e, a', w', hq, .of_steps (.one (fenced_calm hb hr rfl) stepR_loop) harr⟩
end
end Go

namespace Go.Ax
variable {P : Program} {base : Nat} {tbl : Nat → Option AFn}

/-! ### Blocks that are not the abstract machine's -/
theorem StepR.off {ι0 ι : Io} {h0 h : H} {w0 w w' : World} (st : StepR ι0 h0 w0 ι h w) (hsz : w.heap.size ≤ w'.heap.size) (hh : ∀ B, B < w0.heap.size → w'.heap[B]? = w.heap[B]?) (ho : SameS w w' := by exact ⟨rfl, rfl, rfl⟩) : StepR ι0 h0 w0 ι h w' :=
  ⟨st.ext, Nat.le_trans st.size hsz, fun B hB hi => ⟨(hh B hB).trans (st.fr B hB hi).1, (st.fr B hB hi).2⟩, st.os.trans ho⟩
theorem RelS.off {ι : Io} {h : H} {w w' : World} (hS : RelS P base ι h w) (hsz : w.heap.size ≤ w'.heap.size) (hh : ∀ b x p, h.get b = some x → ι b = some p → x ≠ .dead → w'.heap[p.B]? = w.heap[p.B]?) : RelS P base ι h w' :=
  ⟨fun b x hb => by
    obtain ⟨p, hp, hlt, hr⟩ := hS.blk b x hb
    exact ⟨p, hp, Nat.lt_of_lt_of_le hlt hsz, hr.ext (.refl ι) fun hd => hh b x p hb hp hd⟩, hS.unused, hS.inj, hS.top⟩
/-- a block of deferred calls turned -/
theorem RelS.shut {ι : Io} {h : H} {w : World} (hS : RelS P base ι h w) {r : Nat} {ds : Option (List Deferred)} (hr : w.heap[r]? = some (.deferred ds)) (hi : ¬ Img ι h r) (o : Obj) : RelS P base ι h (w.putObj r o) := by
  refine hS.off (by simp) fun b x p hb hp hd => World.putObj_heap_other ?_
  rintro rfl
  obtain ⟨q, hq, hlt, hrel⟩ := hS.blk b x hb
  rw [hp] at hq; cases hq
  by_cases hm : x.mine = true
  · exact hi ⟨b, x, p, hb, hm, hp, rfl⟩
  · cases x with
    | cells l own =>
      cases own with
      | true => exact hm rfl
      | false => obtain ⟨_, arr, ty, fz, h2, _⟩ := hrel; rw [hr] at h2; cases h2
    | dead => exact hd rfl
    | _ => exact hm rfl
theorem RelS.alloc {ι : Io} {h : H} {w : World} (hS : RelS P base ι h w) (o : Obj) : RelS P base ι h (w.alloc o) :=
  hS.off (by rw [size_alloc']; omega) fun b x p hb hp _ => heap_alloc_lt w o (by obtain ⟨q, hq, hlt, _⟩ := hS.blk b x hb; rw [hp] at hq; cases hq; exact hlt)
theorem not_img_top {ι : Io} {h : H} {w : World} (hS : RelS P base ι h w) {B : Nat} (hB : w.heap.size ≤ B) : ¬ Img ι h B := by
  rintro ⟨b, x, p, hb, _, hp, rfl⟩
  obtain ⟨q, hq, hlt, _⟩ := hS.blk b x hb
  rw [hp] at hq; cases hq
  omega

theorem leaves_marks {fn : Func} {rs : List ARes} (hc : compResL P fn.results.toList = some rs) {n0 k : Nat} {ι0 ι : Io} {h0 h : H} {w0 : World} {e : Env} {tmps : Array Value} (hE : RelE ι e tmps) {vs : List AV} (hv : resAll e h rs = some vs) {Q : AV → H → Prop} (hq : Q (tupOf vs) h) (hn : w0.heap.size ≤ n0) :
    ∀ (ds : List Deferred) (w : World), Marks n0 ι h ds w → RelS P base ι h w → StepR ι0 h0 w0 ι h w → LeavesInM (FR none) k P fn tmps (RetR P base Q ι0 h0 w0) ds .returning w
  | [], w, _, hS, st => by
    obtain ⟨v, h1, h2⟩ := results_run hS hE hc hv
    exact ⟨v, h1, _, h, ι, hq, h2, hS, st⟩
  | d :: ds, w, hm, hS, st => by
    obtain ⟨r, h1, h2, h3, h4⟩ := hm.1 d (by simp)
    refine ⟨by simp, .inl ⟨r, _, h1, run_takeDeferred h3, ?_⟩⟩
    refine leaves_marks hc hE hv hq hn ds _ ⟨fun d' hd' => ?_, (List.pairwise_cons.1 hm.2).2⟩ (hS.shut h3 h4 _) (st.off (by simp) fun B hB => World.putObj_heap_other (by omega))
    obtain ⟨r', h5, h6, h7, h8⟩ := hm.1 d' (by simp [hd'])
    refine ⟨r', h5, h6, ?_, h8⟩
    rw [World.putObj_heap_other]
    · exact h7
    · rintro rfl
      exact (List.pairwise_cons.1 hm.2).1 d' hd' (by rw [h1, h5])

/-! ### Environments of a call -/
theorem puts_get : ∀ (l : List AV) (e : Env) (i t : Nat), (Env.puts e i l).get t = if i ≤ t ∧ t < i + l.length then (l[t - i]?).getD .undef else e.get t
  | [], e, i, t => by simp only [Env.puts, List.length_nil]; rw [if_neg (by omega)]
  | v :: l, e, i, t => by
    simp only [Env.puts]
    rw [puts_get l _ (i + 1) t]
    by_cases h : i + 1 ≤ t ∧ t < i + 1 + l.length
    · rw [if_pos h, if_pos (by simp; omega)]
      rw [show t - i = (t - (i + 1)) + 1 by omega, List.getElem?_cons_succ]
    · rw [if_neg h]
      by_cases e1 : t = i
      · subst e1
        rw [if_pos (by simp)]
        simp [Env.get, PT.get_set]
      · rw [if_neg (by simp; omega)]
        simp only [Env.get, PT.get_set_ne _ _ e1]
theorem ofArgs_rel {ι : Io} {l : List AV} {l' : List Value} (h : RelL ι l l') (n : Nat) : RelE ι (Env.ofArgs l) (l'.toArray ++ Array.replicate n undef) := by
  intro t
  rw [Env.ofArgs, puts_get]
  by_cases ht : t < l.length
  · rw [if_pos (by omega), Nat.sub_zero]
    have ht' : t < l'.length := by rw [← h.1]; exact ht
    rw [Array.getD_eq_getD_getElem?, Array.getElem?_append_left (by simpa using ht')]
    simp only [List.getElem?_toArray]
    rw [List.getElem?_eq_getElem ht, List.getElem?_eq_getElem ht']
    exact h.2 t _ _ (List.getElem?_eq_getElem ht) (List.getElem?_eq_getElem ht')
  · rw [if_neg (by omega)]
    have : Env.get (PT.nil : Env) t = .undef := by simp [Env.get, PT.get_nil]
    rw [this]
    exact .undef _

theorem zipPut_rel {ι : Io} : ∀ {ps : List Nat} {as : List AV} {vs : List Value} {e e' : Env} {tmps : Array Value}, RelE ι e tmps → RelL ι as vs → zipPut e ps as = some e' → (∀ t ∈ ps, t < tmps.size) →
    as.length = ps.length ∧ RelE ι e' ((ps.zip vs).foldl (fun tmps (p : Nat × Value) => tmps.setIfInBounds p.1 p.2) tmps) ∧ ((ps.zip vs).foldl (fun tmps (p : Nat × Value) => tmps.setIfInBounds p.1 p.2) tmps).size = tmps.size
  | [], [], vs, e, e', tmps, hE, hL, hz, _ => by
    cases hz
    exact ⟨rfl, by simpa using hE, by simp⟩
  | [], _ :: _, _, _, _, _, _, _, hz, _ => by cases hz
  | _ :: _, [], _, _, _, _, _, _, hz, _ => by cases hz
  | p :: ps, x :: as, [], _, _, _, _, hL, _, _ => by cases hL.1
  | p :: ps, x :: as, v :: vs, e, e', tmps, hE, hL, hz, hps => by
    have h1 : RelE ι (PT.set e p x) (tmps.setIfInBounds p v) := by
      have := RelE.put (a := { tmps := tmps, defers := [] }) hE hL.head (some p) (by intro t ht; cases ht; exact hps p (by simp))
      exact this
    obtain ⟨h2, h3, h4⟩ := zipPut_rel (tmps := tmps.setIfInBounds p v) h1 hL.tail (show zipPut (PT.set e p x) ps as = some e' from hz) (fun t ht => by simpa using hps t (by simp [ht]))
    refine ⟨by simp [h2], by simpa using h3, ?_⟩
    rw [List.zip_cons_cons, List.foldl_cons, h4, Array.size_setIfInBounds]

theorem compF_inv {f : Func} {fn : AFn} (h : compF P f = some fn) : ∃ c rs, f.body = some c ∧ compResL P f.results.toList = some rs ∧ (f.name == "runtime.NumGoroutine") = false ∧ fn = ⟨f.ntmps, rs, comp P f.ntmps c⟩ := by
  unfold compF at h
  split at h
  · rename_i c rs h1 h2
    split at h
    · cases h
    · rename_i h3
      cases h
      exact ⟨c, rs, h1, h2, by simpa using h3, rfl⟩
  · cases h

def SimC (P : Program) (base : Nat) (ex : Ex) : Prop :=
  ∀ (c : Code) (rnd ro : Option Nat) (nt n0 : Nat) (ι : Io) (e : Env) (h : H) (a : Act) (w : World) (k : Nat) (Q : EX → Env → H → Prop), (ex rnd (comp P nt c) e h).all (fun r => Q r.1 r.2.1 r.2.2) →
    SimA P base nt n0 ι e h a w → RndR ι rnd ro → c.wpIn (FR ro) k P (Post P base nt n0 Q ι h w) a w

def TblOk (P : Program) (tbl : Nat → Option AFn) : Prop := ∀ g fn, tbl g = some fn → ∃ f, P.funcs[g]? = some f ∧ compF P f = some fn

theorem loop_of {ι : Io} {h : H} {w : World} (hS : RelS P base ι h w) {l : Nat} {st : LSt} {pend : Option AC} {env : Env} {ps : List Nat} {asg body : AC} (hl : h.get l = some (.loop st pend env ps asg body)) :
    ∃ p, ι l = some p ∧ p.B < w.heap.size ∧ base ≤ p.B ∧ ∃ r : Loop, w.heap[p.B]? = some (.loop r) ∧ RelSt st r.state ∧ RelPend pend r.pending ∧ RelE ι env r.tmps ∧ r.params.toList = ps ∧ comp P r.tmps.size r.assign = asg ∧ comp P r.tmps.size r.body = body ∧ (∀ t ∈ ps, t < r.tmps.size) := by
  obtain ⟨p, hp, hlt, hb, r, h1⟩ := hS.blk l _ hl
  exact ⟨p, hp, hlt, hb, r, h1⟩

theorem callSim {ex : Ex} (hT : TblOk P tbl) (hex : SimC P base ex) : CallSim P base (callF tbl ex) := by
  intro f args h fv argsv ι w Q hr hS hb hf ha
  unfold callF at hr
  split at hr
  · -- a function
    rename_i g first caps
    split at hr
    · exact hr.elim
    · rename_i fn hfn
      obtain ⟨fd, hfd, hcf⟩ := hT g fn hfn
      obtain ⟨c, rs, hbody, hres, hname, rfl⟩ := compF_inv hcf
      rw [cond_eq_ite] at hr
      split at hr
      · rename_i hle
        cases hf with
        | @fn _ f' _ _ first' caps' hF h1 h2 h3 h4 =>
          cases hF
          have hfr : RelL ι first first'.toList := ⟨by simpa using h1, fun i a v ha hv => h2 i a v ha (by simpa using hv)⟩
          have hcr : RelL ι caps caps'.toList := ⟨by simpa using h3, fun i a v ha hv => h4 i a v ha (by simpa using hv)⟩
          have hall := (hfr.append ha).append hcr
          have harr : (first' ++ argsv.toArray) ++ caps' = ((first'.toList ++ argsv) ++ caps'.toList).toArray := by
            apply Array.ext'; simp
          refine ⟨{ target := .fn (.func g) caps', args := first' ++ argsv.toArray }, .enter g ((first' ++ argsv.toArray) ++ caps'), ?_, ?_, ?_, fun _ => ⟨_, _, rfl⟩⟩
          · simp [Deferred.ofValue]
          · simp only [invoke]
            exact run_callFunc hfd hbody hname _ w
          · intro ro k
            have hlen : ((first ++ args) ++ caps).length ≤ fd.ntmps := Nat.le_of_ble_eq_true hle
            have hsz : ((first' ++ argsv.toArray) ++ caps').size ≤ fd.ntmps := by
              rw [harr, List.size_toArray, ← hall.1]; exact hlen
            have hA : SimA P base fd.ntmps w.heap.size ι (Env.ofArgs ((first ++ args) ++ caps)) h { tmps := ((first' ++ argsv.toArray) ++ caps') ++ Array.replicate (fd.ntmps - ((first' ++ argsv.toArray) ++ caps').size) undef, defers := [] } w := by
              refine ⟨hS, hb, ?_, ?_, ⟨(fun d hd => by cases hd), .nil⟩, Nat.le_refl _⟩
              · rw [harr]; exact ofArgs_rel hall _
              · rw [Array.size_append, Array.size_replicate]; omega
            have hbind := (T.all_bind _ _).1 hr
            have hcall : CallsIn (FR none) k P g ((first' ++ argsv.toArray) ++ caps') w (RetR P base Q ι h w) := by
              refine callsIn_of_wp_marks hfd hbody trivial (wpIn_mono (hex c none none fd.ntmps w.heap.size ι _ h _ w k (fun x e h => match x with | .exit _ => False | _ => ∃ vs, resAll e h rs = some vs ∧ Q (tupOf vs) h) (T.all_mono ?_ hbind) hA trivial) ?_) rfl
              · rintro ⟨x, e', h'⟩ hx
                cases x with
                | exit _ => exact hx
                | _ =>
                  obtain ⟨q, hq, hQ⟩ := T.all_ofOpt.1 hx
                  simp only [Option.map_eq_some_iff] at hq
                  obtain ⟨vs, hvs, rfl⟩ := hq
                  exact ⟨vs, hvs, hQ⟩
              · rintro e1 a1 w1 ⟨x, e', h', ι', hq, hx, hs, st⟩
                cases x with
                | exit _ => exact hq.elim
                | normal =>
                  cases e1 <;> first | exact hx.elim | skip
                  obtain ⟨vs, hvs, hQ⟩ := hq
                  exact leaves_marks hres hs.e hvs hQ (Nat.le_refl _) _ _ hs.m hs.s st
                | ret =>
                  cases e1 <;> first | exact hx.elim | skip
                  obtain ⟨vs, hvs, hQ⟩ := hq
                  exact leaves_marks hres hs.e hvs hQ (Nat.le_refl _) _ _ hs.m hs.s st
            exact hcall
      · exact hr.elim
  · -- a round
    rename_i l
    split at hr
    · rename_i pend env ps asg body hl
      split at hr
      · exact hr.elim
      · rename_i e0 hz
        obtain ⟨p, hp, hlt, hpb, r, hheap, hst, hpend, hEnv, hps, hasg, hbod, hpss⟩ := loop_of hS hl
        cases hf with
        | @fn _ f' _ _ first' caps' hF h1 h2 h3 h4 =>
          cases hF with
          | @yield _ p' hp' =>
            rw [hp] at hp'; cases hp'
            have e1 : first' = #[] := Array.eq_empty_of_size_eq_zero h1.symm
            have e2 : caps' = #[] := Array.eq_empty_of_size_eq_zero h3.symm
            subst e1; subst e2
            obtain ⟨hlen, hE0, hsz0⟩ := zipPut_rel hEnv ha hz hpss
            have hsz : argsv.toArray.size = r.params.size := by
              rw [List.size_toArray, ← ha.1, hlen, ← hps]; simp
            have htm : (r.params.zip argsv.toArray).foldl (fun tmps (t, a) => tmps.setIfInBounds t a) r.tmps = (ps.zip argsv).foldl (fun tmps (p : Nat × Value) => tmps.setIfInBounds p.1 p.2) r.tmps := by
              rw [← hps, ← Array.foldl_toList, Array.toList_zip]
            refine ⟨{ target := .fn (.yield p.B) #[], args := argsv.toArray }, .round p.B r.fn ((r.params.zip argsv.toArray).foldl (fun tmps (t, a) => tmps.setIfInBounds t a) r.tmps) r.assign r.body, ?_, ?_, ?_, fun h => by cases h⟩
            · simp [Deferred.ofValue]
            · simp only [invoke]
              exact run_yield hheap hsz
            · intro ro k
              have hbind := (T.all_bind _ _).1 hr
              have hA : SimA P base r.tmps.size w.heap.size ι e0 h { tmps := (r.params.zip argsv.toArray).foldl (fun tmps (t, a) => tmps.setIfInBounds t a) r.tmps, defers := [] } w :=
                ⟨hS, hb, by rw [htm]; exact hE0, by rw [htm]; exact hsz0, ⟨(fun d hd => by cases hd), .nil⟩, Nat.le_refl _⟩
              have hround : RndR ι (some l) (some p.B) := ⟨p, hp, rfl⟩
              refine roundIn_of_wpIn trivial ?_
              have hw := hex r.assign (some l) (some p.B) r.tmps.size w.heap.size ι e0 h _ w k (fun x e h => match x with
                | .normal => match h.get l with
                  | some (.loop .ready p env ps asg body') => ((ex (some l) body e (h.put l (.loop .busy p env ps asg body'))).bind fun (x, _, h) => roundEnd l x h).all fun r => Q r.1 r.2
                  | _ => False
                | _ => False) (by rw [hasg]; exact T.all_mono (by
                  rintro ⟨x, e', h'⟩ hx
                  cases x with
                  | normal =>
                    simp only at hx ⊢
                    split at hx
                    · rename_i hg; rw [hg]; exact hx
                    · exact hx.elim
                  | _ => exact hx) hbind) hA hround
              refine wpIn_mono hw ?_
              rintro ex1 a1 w1 ⟨x, e', h', ι', hq, hx, hs, st⟩
              cases x with
              | exit _ => exact hq.elim
              | ret => exact hq.elim
              | normal =>
                cases ex1 <;> first | exact hx.elim | skip
                simp only at hq
                split at hq
                · rename_i pend1 env1 ps1 asg1 body1 hl1
                  obtain ⟨p1, hp1, hlt1, hpb1, r1, hheap1, hst1, hpend1, hEnv1, hps1, hasg1, hbod1, hpss1⟩ := loop_of hs.s hl1
                  have hpe : ι' l = some p := st.ext _ _ hp
                  rw [hpe] at hp1; cases hp1
                  have hready : r1.state = .ready := by
                    cases hstt : r1.state <;> rw [hstt] at hst1 <;> first | rfl | exact hst1.elim
                  refine ⟨_, run_beginRound hheap1 hready, ?_⟩
                  have hB1 : RelB P ι' base (w1.putObj p.B (.loop { r1 with state := .busy })).heap p (.loop .busy pend1 env1 ps1 asg1 body1) :=
                    ⟨hpb1, _, World.putObj_heap_same hlt1, trivial, hpend1, hEnv1, hps1, hasg1, hbod1, hpss1⟩
                  obtain ⟨hS2, st2⟩ := hs.s.put (w' := w1.putObj p.B (.loop { r1 with state := .busy })) hl1 rfl hpe (by simp) (fun k hk => World.putObj_heap_other hk) hB1
                  have hA2 : SimA P base r.tmps.size w.heap.size ι' e' _ a1 (w1.putObj p.B (.loop { r1 with state := .busy })) := ⟨hS2, Nat.le_trans hs.b st2.size, hs.e, hs.n, hs.m.step st2, Nat.le_trans hs.nb st2.size⟩
                  have hw2 := hex r.body (some l) (some p.B) r.tmps.size w.heap.size ι' e' _ a1 _ k (fun x _ h => (roundEnd l x h).all fun r => Q r.1 r.2) (by
                    rw [hbod]
                    exact T.all_mono (by rintro ⟨x, e2, h2⟩ hx; exact hx) ((T.all_bind _ _).1 hq)) hA2 ⟨p, hpe, rfl⟩
                  refine wpIn_mono hw2 ?_
                  rintro ex2 a2 w2 ⟨x, e2, h2, ι2, hq2, hx2, hs2, st3⟩
                  unfold roundEnd at hq2
                  split at hq2
                  · rename_i pend2 env2 ps2 asg2 body2 hl2
                    obtain ⟨p2, hp2, hlt2, hpb2, r2, hheap2, hst2', hpend2, hEnv2, hps2, hasg2, hbod2, hpss2⟩ := loop_of hs2.s hl2
                    have hpe2 : ι2 l = some p := st3.ext _ _ hpe
                    rw [hpe2] at hp2; cases hp2
                    have fin : ∀ (jump : Option Code) (stt : LSt) (pnd : Option AC), RelSt stt (if jump.isNone then .ready else .done) → RelPend pnd jump → Q (.bool jump.isNone) (h2.put l (.loop stt pnd env2 ps2 asg2 body2)) →
                        ∃ v w', (Instr.endRound p.B jump).run P w2 = .ok v w' ∧ RetR P base Q ι h w (.returned v) w' := by
                      intro jump stt pnd h5 h6 h7
                      have hB2 : RelB P ι2 base (w2.putObj p.B (.loop { r2 with state := if jump.isNone then .ready else .done, pending := jump })).heap p (.loop stt pnd env2 ps2 asg2 body2) :=
                        ⟨hpb2, _, World.putObj_heap_same hlt2, h5, h6, hEnv2, hps2, hasg2, hbod2, hpss2⟩
                      obtain ⟨hS3, st4⟩ := hs2.s.put (w' := w2.putObj p.B (.loop { r2 with state := if jump.isNone then .ready else .done, pending := jump })) hl2 rfl hpe2 (by simp) (fun k hk => World.putObj_heap_other hk) hB2
                      exact ⟨_, _, run_endRound jump hheap2, _, _, ι2, h7, .bool _, hS3, (st.trans st2).trans (st3.trans st4)⟩
                    cases x with
                    | normal =>
                      cases ex2 <;> first | exact hx2.elim | skip
                      exact fin none .ready none trivial trivial hq2
                    | ret =>
                      cases ex2 <;> first | exact hx2.elim | skip
                      exact fin (some .ret) .done (some .ret) trivial trivial hq2
                    | exit id =>
                      cases ex2 <;> first | exact hx2.elim | skip
                      cases hx2
                      exact fin (some (.exit _)) .done (some (.exit id)) trivial rfl hq2
                  · exact hq2.elim
                · exact hq.elim
    · exact hr.elim
  · exact hr.elim
end Go.Ax
