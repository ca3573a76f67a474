/-
  The machine's side of calls, rounds and results, against the abstract machine's.
-/
import Derived.Test.YtmhbmnonichopaaXC4
import Derived.Test.YtmhbmnonichopaaXB9
import Derived.RangeFuncNested
import Derived.RangeFuncCalls
namespace Go
section scope
variable {P : Program} {b : Frame} {a : Act} {k : List Item} {cs : List Frame} {w : World} {Q : Exit → Act → World → Prop} {F : Fence} {n : Nat}
theorem axStepR_scope {c : Code} : step P (lone (b.atR a (.code (.scope c) :: k)) cs w) = .next (lone (b.atR a (.code c :: .inScope c :: k)) cs w) :=
  step_lone_go (by simp [stepG, stepG.exec, Frame.atR])
theorem axStepR_inScope {c : Code} : step P (lone (b.atR a (.inScope c :: k)) cs w) = .next (lone (b.atR a k) cs w) :=
  step_lone_go (by simp [stepG, stepG.exec, Frame.atR])
theorem axWpIn_scope {c : Code} (hg : ∀ l a w, ¬ Q (.goto l) a w) (h : c.wpIn F n P Q a w) : (Code.scope c).wpIn F n P Q a w := by
  intro b k cs hro hb hr
  have h0 : (lone (b.atR a (.code (.scope c) :: k)) cs w).fenced P F := fenced_calm hb hr rfl
  obtain ⟨e, a₁, w₁, hq, harr⟩ := h b (.inScope c :: k) cs hro hb hr
  cases e with
  | normal => exact ⟨.normal, a₁, w₁, hq, .head h0 axStepR_scope (StepsIn.trans harr (.one (fenced_calm hb hr rfl) axStepR_inScope))⟩
  | exit id =>
    have hx : exitTo id (.inScope c :: k) = exitTo id k := by simp [exitTo]
    exact ⟨.exit id, a₁, w₁, hq, fun k' hk => .head h0 axStepR_scope (harr.1 k' (by rw [hx]; exact hk)),
      fun hr' hk => let ⟨k₁, h1, h2⟩ := harr.2 hr' (by rw [hx]; exact hk); ⟨k₁, h1, .head h0 axStepR_scope h2⟩⟩
  | goto l => exact (hg _ _ _ hq).elim
  | ret => exact ⟨_, a₁, w₁, hq, .of_steps (.one h0 axStepR_scope) harr⟩
  | panic ch => exact ⟨_, a₁, w₁, hq, .of_steps (.one h0 axStepR_scope) harr⟩
  | outgrown => exact ⟨_, a₁, w₁, hq, .of_steps (.one h0 axStepR_scope) harr⟩
end scope
end Go
namespace Go.Ax

/-- no fence: in a round, or in none -/
def FR (ro : Option Nat) : Fence := { Fence.wide with round := ro }
theorem FR_room (ro : Option Nat) (n : Nat) : (FR ro).room n := fun _ h => by cases h
theorem FR_fn (ro : Option Nat) (f : FuncId) : (FR ro).fn f := trivial
theorem FR_depth (ro : Option Nat) (n : Nat) : (FR ro).depth.isSome = true → 1 ≤ n := fun h => by cases h


variable {P : Program} {base : Nat}

theorem run_callFunc {g : FuncId} {fn : Func} {c : Code} (hf : P.funcs[g]? = some fn) (hb : fn.body = some c) (hn : (fn.name == "runtime.NumGoroutine") = false) (args : Array Value) (w : World) :
    (callFunc g args).run P w = .ok (.enter g args) w := by
  have hn' : ¬ fn.name = "runtime.NumGoroutine" := by simpa using hn
  simp [callFunc, Sem.run_bind, program, Sem.run, Result.andThen, hf, hb, hn']

def resFun (tmps : Array Value) (r : ResultVar) : Sem Value :=
  match r with
  | .tmp t => pure (tmps.getD t undef)
  | .cell a t => do loadVar t (← asAddr (tmps.getD a undef))

theorem resOne_run {ι : Io} {h : H} {w : World} {e : Env} {tmps : Array Value} (hS : RelS P base ι h w) (hE : RelE ι e tmps) {r : ResultVar} {x : ARes} {v : AV} (hc : compRes P r = some x) (hr : resOne e h x = some v) :
    ∃ v', (resFun tmps r).run P w = .ok v' w ∧ RelV ι v v' := by
  cases r with
  | tmp t =>
    cases hc
    cases hr
    exact ⟨_, by simp [resFun], hE t⟩
  | cell a t =>
    simp only [compRes, Option.map_eq_some_iff] at hc
    obtain ⟨n, hn, rfl⟩ := hc
    simp only [resOne] at hr
    split at hr
    · rename_i b o hp
      split at hr
      · rename_i l own hl
        have hv := hE a
        rw [hp] at hv
        obtain ⟨q, hq, hv⟩ := rel_ptr hv
        obtain ⟨r', h1, h2⟩ := run_load_var hS hl hq hn hr
        exact ⟨r', by simp [resFun, hv, asAddr, h1], h2⟩
      · cases hr
    · cases hr

theorem resAll_run {ι : Io} {h : H} {w : World} {e : Env} {tmps : Array Value} (hS : RelS P base ι h w) (hE : RelE ι e tmps) : ∀ {l : List ResultVar} {rs : List ARes} {vs : List AV}, compResL P l = some rs → resAll e h rs = some vs →
    ∃ vs', (l.mapM (resFun tmps)).run P w = .ok vs' w ∧ RelL ι vs vs'
  | [], rs, vs, hc, hr => by
    cases hc; cases hr
    exact ⟨[], by simp, .nil⟩
  | r :: l, rs, vs, hc, hr => by
    simp only [compResL] at hc
    split at hc
    · rename_i x xs h1 h2
      cases hc
      simp only [resAll] at hr
      split at hr
      · rename_i v vs' h3 h4
        cases hr
        obtain ⟨v', h5, h6⟩ := resOne_run hS hE h1 h3
        obtain ⟨vs', h7, h8⟩ := resAll_run hS hE h2 h4
        refine ⟨v' :: vs', ?_, .cons h6 h8⟩
        rw [List.mapM_cons]
        simp only [Sem.run_bind, h5, Result.andThen_ok, h7]
        rfl
      · cases hr
    · cases hc

theorem results_run {ι : Io} {h : H} {w : World} {e : Env} {tmps : Array Value} (hS : RelS P base ι h w) (hE : RelE ι e tmps) {fn : Func} {rs : List ARes} {vs : List AV} (hc : compResL P fn.results.toList = some rs) (hr : resAll e h rs = some vs) :
    ∃ v, (results fn tmps).run P w = .ok v w ∧ RelV ι (tupOf vs) v := by
  obtain ⟨vs', h1, h2⟩ := resAll_run hS hE hc hr
  have h3 : results fn tmps = (do let vs ← fn.results.mapM (resFun tmps); pure (if h : vs.size = 1 then vs[0] else .tuple vs)) := rfl
  rw [h3, Array.mapM_eq_mapM_toList]
  simp only [Sem.run_bind, Sem.run_map, h1, Result.andThen_ok]
  match vs, vs', h2 with
  | [], [], _ => exact ⟨.tuple #[], by simp, .tup rfl (by simp)⟩
  | [v], [v'], h2 => exact ⟨v', by simp, h2.head⟩
  | v :: u :: l, v' :: u' :: l', h2 => exact ⟨.tuple (v' :: u' :: l').toArray, by simp, h2.tup⟩
  | [], _ :: _, h2 => cases h2.1
  | _ :: _, [], h2 => cases h2.1
  | [_], _ :: _ :: _, h2 => simp [RelL] at h2
  | _ :: _ :: _, [_], h2 => simp [RelL] at h2

/-! ### A round of a map -/

/-- entries beside entries -/
theorem filter_rel {ι : Io} {p : Nat → Bool} : ∀ {l : List AEnt} {l' : List MapEntry}, RelEs ι l l' → RelEs ι (l.filter fun x => p x.born) (l'.filter fun x => p x.born)
  | [], [], h => ⟨rfl, by simp⟩
  | [], _ :: _, h => by cases h.1
  | _ :: _, [], h => by cases h.1
  | x :: l, y :: l', h => by
    have hxy : RelEnt ι x y := h.2 0 x y rfl rfl
    have ht : RelEs ι l l' := ⟨by simpa using h.1, fun i a b ha hb => h.2 (i + 1) a b (by simpa using ha) (by simpa using hb)⟩
    have ih := filter_rel (p := p) ht
    rw [List.filter_cons, List.filter_cons, ← hxy.2.2]
    split
    · refine ⟨by simp [ih.1], fun i a b ha hb => ?_⟩
      cases i with
      | zero => simp at ha hb; subst ha; subst hb; exact hxy
      | succ i => simp at ha hb; exact ih.2 i a b ha hb
    · exact ih
theorem RelEs.app {ι : Io} {a b : List AEnt} {a' b' : List MapEntry} (h : RelEs ι a a') (k : RelEs ι b b') : RelEs ι (a ++ b) (a' ++ b') :=
  ⟨by simp [h.1, k.1], fun i x v hx hv => by
    rw [List.getElem?_append] at hx hv
    rw [← h.1] at hv
    split at hx
    · rename_i hi; rw [if_pos hi] at hv; exact h.2 i x v hx hv
    · rename_i hi; rw [if_neg hi] at hv; exact k.2 _ x v hx hv⟩
theorem all_rel {ι : Io} {p : Nat → Bool} : ∀ {l : List AEnt} {l' : List MapEntry}, RelEs ι l l' → (l.all fun x => p x.born) = (l'.all fun x => p x.born)
  | [], [], _ => rfl
  | [], _ :: _, h => by cases h.1
  | _ :: _, [], h => by cases h.1
  | x :: l, y :: l', h => by
    have hxy : RelEnt ι x y := h.2 0 x y rfl rfl
    have ht : RelEs ι l l' := ⟨by simpa using h.1, fun i a b ha hb => h.2 (i + 1) a b (by simpa using ha) (by simpa using hb)⟩
    simp only [List.all_cons, all_rel ht, hxy.2.2]
theorem RelEs.empty {ι : Io} {l : List AEnt} {l' : List MapEntry} (h : RelEs ι l l') : l.isEmpty = l'.isEmpty := by
  cases l <;> cases l' <;> first | rfl | cases h.1

def candC (es : Array MapEntry) (since : Nat) (seen : Array Nat) : Array (Option MapEntry) :=
  (if ((es.filter fun e => !seen.contains e.born).filter (·.born < since)).isEmpty then #[none] else #[]) ++ (((es.filter fun e => !seen.contains e.born).filter (·.born < since)) ++ ((es.filter fun e => !seen.contains e.born).filter (·.born ≥ since))).map some

theorem cand_rel {ι : Io} {es : List AEnt} {es' : Array MapEntry} (h : RelEs ι es es'.toList) (since : Nat) (seen : List Nat) :
    (candidates es since seen).length = (candC es' since seen.toArray).size ∧
    ∀ (i : Nat), i < (candidates es since seen).length → ((candidates es since seen)[i]? = some none ∧ (candC es' since seen.toArray)[i]? = some none) ∨
      (∃ x y, (candidates es since seen)[i]? = some (some x) ∧ (candC es' since seen.toArray)[i]? = some (some y) ∧ RelEnt ι x y) := by
  have h1 : RelEs ι (es.filter fun x => !seen.contains x.born) (es'.toList.filter fun x => !seen.contains x.born) := filter_rel (p := fun n => !seen.contains n) h
  have h2 : RelEs ι ((es.filter fun x => !seen.contains x.born).filter (·.born < since)) ((es'.toList.filter fun x => !seen.contains x.born).filter (·.born < since)) := filter_rel (p := fun n => decide (n < since)) h1
  have h3 : RelEs ι ((es.filter fun x => !seen.contains x.born).filter (fun x => !decide (x.born < since))) ((es'.toList.filter fun x => !seen.contains x.born).filter (fun x => !decide (x.born < since))) := filter_rel (p := fun n => !decide (n < since)) h1
  have e1 : (candC es' since seen.toArray).toList = (if ((es'.toList.filter fun x => !seen.contains x.born).filter (·.born < since)).isEmpty then [none] else []) ++ (((es'.toList.filter fun x => !seen.contains x.born).filter (·.born < since)) ++ ((es'.toList.filter fun x => !seen.contains x.born).filter (fun x => !decide (x.born < since)))).map some := by
    have hge : (fun (x : MapEntry) => decide (x.born ≥ since)) = fun x => !decide (x.born < since) := by funext x; by_cases h : x.born < since <;> simp [h] <;> omega
    have hemp : ((es'.filter fun e => !seen.toArray.contains e.born).filter (·.born < since)).isEmpty = ((es'.toList.filter fun x => !seen.contains x.born).filter (·.born < since)).isEmpty := by
      rw [← Array.isEmpty_toList]; simp
    unfold candC
    rw [hemp, hge]
    simp only [Array.toList_append, Array.toList_map, Array.toList_filter]
    congr 1
    · split <;> rfl
    · simp
  rw [← h2.empty] at e1
  have e2 : (candidates es since seen) = (if ((es.filter fun x => !seen.contains x.born).filter (·.born < since)).isEmpty then [none] else []) ++ (((es.filter fun x => !seen.contains x.born).filter (·.born < since)) ++ ((es.filter fun x => !seen.contains x.born).filter (fun x => !decide (x.born < since)))).map some := rfl
  have hlr := h2.app h3
  have key : ∀ (pre : List (Option AEnt)) (pre' : List (Option MapEntry)), (pre = [] ∧ pre' = []) ∨ (pre = [none] ∧ pre' = [none]) → ∀ {A : List AEnt} {B : List MapEntry}, RelEs ι A B →
      (pre ++ A.map some).length = (pre' ++ B.map some).length ∧ ∀ (i : Nat), i < (pre ++ A.map some).length → ((pre ++ A.map some)[i]? = some none ∧ (pre' ++ B.map some)[i]? = some none) ∨
      (∃ x y, (pre ++ A.map some)[i]? = some (some x) ∧ (pre' ++ B.map some)[i]? = some (some y) ∧ RelEnt ι x y) := by
    intro pre pre' hp A B hAB
    have main : ∀ i, i < A.length → ∃ x y, (A.map some)[i]? = some (some x) ∧ (B.map some)[i]? = some (some y) ∧ RelEnt ι x y := by
      intro i hi
      have hi' : i < B.length := by rw [← hAB.1]; exact hi
      exact ⟨A[i], B[i], by simp [hi], by simp [hi'], hAB.2 i _ _ (by simp [hi]) (by simp [hi'])⟩
    rcases hp with ⟨rfl, rfl⟩ | ⟨rfl, rfl⟩
    · refine ⟨by simp [hAB.1], fun i hi => .inr ?_⟩
      simp only [List.nil_append, List.length_map] at hi ⊢
      exact main i hi
    · refine ⟨by simp [hAB.1], fun i hi => ?_⟩
      cases i with
      | zero => exact .inl ⟨rfl, rfl⟩
      | succ i =>
        right
        simp only [List.cons_append, List.nil_append, List.getElem?_cons_succ, List.length_cons, List.length_map] at hi ⊢
        exact main i (by omega)
  rw [e2, ← Array.length_toList, e1]
  simp only [← Array.getElem?_toList, e1]
  refine key _ _ ?_ hlr
  split
  · exact .inr ⟨rfl, rfl⟩
  · exact .inl ⟨rfl, rfl⟩

theorem next_sim {ι : Io} {h : H} {w : World} (hS : RelS P base ι h w) {it : AV} {itv : Value} (hi : RelV ι it itv) {Q : AV → H → Prop} (hQ : (nextF it h).all fun r => Q r.1 r.2) (ty : TypeId) :
    ∃ v v' h' w', (Instr.next itv false ty).run P w = .ok v' w' ∧ Q v h' ∧ RelV ι v v' ∧ RelS P base ι h' w' ∧ StepR ι h w ι h' w' := by
  unfold nextF at hQ
  split at hQ
  · rename_i r
    obtain ⟨q, hq, rfl⟩ := rel_ptr hi
    split at hQ
    · rename_i since seen last hr
      obtain ⟨q', hq', hlt, hb, h0, m', hheap, hm⟩ := hS.blk r _ hr
      rw [hq] at hq'; cases hq'
      cases m' with
      | some _ => exact hm.elim
      | none =>
        refine ⟨_, .tuple #[.bool false], h, w, ?_, hQ, RelL.tup (l' := [.bool false]) (.cons (.bool false) .nil), hS, .refl _ _ _⟩
        simp only [Instr.next, h0]
        simp [getObj, Sem.run, hheap, Result.andThen]
    · rename_i m since seen last hr
      obtain ⟨q', hq', hlt, hb, h0, m', hheap, hm⟩ := hS.blk r _ hr
      rw [hq] at hq'; cases hq'
      cases m' with
      | none => exact hm.elim
      | some mB =>
        obtain ⟨qm, hqm, hmB⟩ := hm
        split at hQ
        · rename_i es clock hmap
          obtain ⟨qm', hqm', hltm, hbm, es', hheapm, hes⟩ := hS.blk m _ hmap
          rw [hqm] at hqm'; cases hqm'
          rw [hmB] at hheapm
          split at hQ
          · exact hQ.elim
          · rename_i hchk
            obtain ⟨hpos, hQ⟩ := hQ
            obtain ⟨hlen, hcand⟩ := cand_rel hes since seen
            have hchk' : (!seen.toArray.isEmpty && !es'.isEmpty && es'.all fun x => decide (x.born ≥ last)) = false := by
              have e1 : seen.toArray.isEmpty = seen.isEmpty := by cases seen <;> rfl
              have e2 : es'.isEmpty = es.isEmpty := by rw [hes.empty, Array.isEmpty_toList]
              have e3 : (es'.all fun x => decide (x.born ≥ last)) = es.all fun x => !decide (x.born < last) := by
                have hge : (fun (x : MapEntry) => decide (x.born ≥ last)) = fun x => !decide (x.born < last) := by funext x; by_cases h : x.born < last <;> simp [h] <;> omega
                rw [hge, ← Array.all_toList]
                exact (all_rel (p := fun n => !decide (n < last)) hes).symm
              rw [e1, e2, e3]
              simpa using hchk
            have hch : ∃ (j : Nat) (w1 : World), j < (candC es' since seen.toArray).size ∧ (w1 = w ∨ w1 = w.drew) ∧ (choose (Question.mapNext (candC es' since seen.toArray).size)).run P w = .ok j w1 := by
              by_cases hf : (candC es' since seen.toArray).size ≤ 1
              · exact ⟨0, w, by omega, .inl rfl, by simp [choose, Sem.run, Question.forced, hf]⟩
              · exact ⟨_, w.drew, Nat.mod_lt _ (by omega), .inr rfl, by
                  simp only [choose, Sem.run, Question.forced, decide_eq_true_eq, hf, if_false, Question.cut]
                  rfl⟩
            obtain ⟨j, w1, hj, hw1, hrun⟩ := hch
            have hheap1 : w1.heap = w.heap := by rcases hw1 with rfl | rfl <;> rfl
            have hos1 : SameS w w1 := by rcases hw1 with rfl | rfl <;> exact ⟨rfl, rfl, rfl⟩
            have hS1 : RelS P base ι h w1 := hS.same (fun _ => rfl) (Nat.le_refl _) hheap1
            have hj' : j < (candidates es since seen).length := by rw [hlen]; exact hj
            have hQj := hQ j hj'
            have hrr : (Instr.next (.pointer (some ⟨q.B, q.O + 0, none⟩)) false ty).run P w =
                (match (candC es' since seen.toArray)[j]? with
                | some (some e) => (do setObj q.B (.mapIter (some mB) since (seen.toArray.push e.born) clock); pure (.tuple #[.bool true, e.key, e.val]) : Sem Value)
                | some none => pure (.tuple #[.bool false])
                | none => stuck "Next: no such candidate").run P w1 := by
              simp only [Instr.next, h0]
              simp only [getObj, Sem.run_bind, Sem.run, hheap, Result.andThen_ok, hheapm, hchk', Bool.false_eq_true, if_false]
              have hrun' := hrun
              unfold candC at hrun'
              simp only [hrun', Result.andThen_ok]
              unfold candC
              rfl
            rw [hrr]
            rcases hcand j hj' with ⟨c1, c2⟩ | ⟨x, y, c1, c2, hxy⟩
            · rw [c2]
              simp only [c1] at hQj
              exact ⟨_, .tuple #[.bool false], h, w1, by simp, hQj, RelL.tup (l' := [.bool false]) (.cons (.bool false) .nil), hS1, StepR.same (fun _ => rfl) hheap1 hos1⟩
            · rw [c2]
              simp only [c1] at hQj
              have hr1 : w1.heap[q.B]? = some (.mapIter (some mB) since seen.toArray last) := by rw [hheap1]; exact hheap
              have hne : h.get r = some (.iter (some m) since seen last) := hr
              have hB : RelB P ι base (w1.putObj q.B (.mapIter (some mB) since (seen.toArray.push y.born) clock)).heap q (.iter (some m) since (seen ++ [x.born]) clock) := by
                refine ⟨hb, h0, some mB, ?_, qm, hqm, hmB⟩
                rw [World.putObj_heap_same (by rw [hheap1]; exact hlt), hxy.2.2]
                simp
              obtain ⟨hS2, hst⟩ := hS1.put (w' := w1.putObj q.B (.mapIter (some mB) since (seen.toArray.push y.born) clock)) hne rfl hq (by simp) (fun k hk => World.putObj_heap_other hk) hB
              refine ⟨_, .tuple #[.bool true, y.key, y.val], _, _, ?_, hQj, RelL.tup (l' := [.bool true, y.key, y.val]) (.cons (.bool true) (.cons hxy.1 (.cons hxy.2.1 .nil))), hS2, (StepR.same (fun _ => rfl) hheap1 hos1).trans hst⟩
              have : (setObj q.B (.mapIter (some mB) since (seen.toArray.push y.born) clock)).run P w1 = .ok () (w1.putObj q.B (.mapIter (some mB) since (seen.toArray.push y.born) clock)) := by
                simp [setObj, Sem.run, hr1, World.putObj]
              simp only [Sem.run_bind, this, Result.andThen_ok, Sem.run_pure]
        · exact hQ.elim
    · exact hQ.elim
  · exact hQ.elim
end Go.Ax
