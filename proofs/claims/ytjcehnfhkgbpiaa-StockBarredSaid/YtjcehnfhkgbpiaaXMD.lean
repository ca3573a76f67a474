/-
  The machine's side of calls, rounds and results, against the abstract machine's.
  One operation of the machine against one of the abstract machine.
  Regions: in the text's order, and with a drawn one.
  Code: what the abstract machine does the machine does.
  The main law: what the abstract machine does, the machine does.
  A function's run, told by the abstract machine, for a row.
  A table of functions, looked up in a list.
-/
import Derived.Test.YtjcehnfhkgbpiaaXMC
import Derived.Test.YtjcehnfhkgbpiaaXMB
import Derived.RangeFuncNested
import Derived.RangeFuncCalls
import Derived.Below
import Derived.Test.YtjcehnfhkgbpiaaXMA
set_option linter.unusedVariables false
set_option linter.unusedSimpArgs false
section
namespace Go
section scope
variable {P : Program} {b : Frame} {a : Act} {k : List Item} {cs : List Frame} {w : World} {Q : Exit → Act → World → Prop} {F : Fence} {n : Nat}
theorem axStepR_scope {c : Code} : step P (lone (b.atR a (.code (.scope c) :: k)) cs w) = .next (lone (b.atR a (.code c :: .inScope c :: k)) cs w) :=
  step_lone_go (by simp [stepG, stepG.exec, Frame.atR])
theorem axStepR_inScope {c : Code} : step P (lone (b.atR a (.inScope c :: k)) cs w) = .next (lone (b.atR a k) cs w) :=
  step_lone_go (by simp [stepG, stepG.exec, Frame.atR])
theorem axWpIn_scope {c : Code} (hg : ∀ l a w, ¬ Q (.goto l) a w) (h : c.wpIn F n P Q a w) : (Code.scope c).wpIn F n P Q a w := by
  intro b k cs hro hb hr
  have h0 : (lone (b.atR a (.code (.scope c) :: k)) cs w).fenced P F := fenced_calm hb hr rfl
  obtain ⟨e, a₁, w₁, hq, harr⟩ := h b (.inScope c :: k) cs hro hb hr
  cases e with
  | normal => exact ⟨.normal, a₁, w₁, hq, .head h0 axStepR_scope (StepsIn.trans harr (.one (fenced_calm hb hr rfl) axStepR_inScope))⟩
  | exit id =>
    have hx : exitTo id (.inScope c :: k) = exitTo id k := by simp [exitTo]
    exact ⟨.exit id, a₁, w₁, hq, fun k' hk => .head h0 axStepR_scope (harr.1 k' (by rw [hx]; exact hk)),
      fun hr' hk => let ⟨k₁, h1, h2⟩ := harr.2 hr' (by rw [hx]; exact hk); ⟨k₁, h1, .head h0 axStepR_scope h2⟩⟩
  | goto l => exact (hg _ _ _ hq).elim
  | ret => exact ⟨_, a₁, w₁, hq, .of_steps (.one h0 axStepR_scope) harr⟩
  | panic ch => exact ⟨_, a₁, w₁, hq, .of_steps (.one h0 axStepR_scope) harr⟩
  | outgrown => exact ⟨_, a₁, w₁, hq, .of_steps (.one h0 axStepR_scope) harr⟩
end scope
end Go
namespace Go.Ax
def FR (ro : Option Nat) : Fence := { Fence.wide with round := ro }
theorem FR_depth (ro : Option Nat) (n : Nat) : (FR ro).depth.isSome = true → 1 ≤ n := fun h => by cases h
variable {P : Program} {base : Nat}
theorem run_callFunc {g : FuncId} {fn : Func} {c : Code} (hf : P.funcs[g]? = some fn) (hb : fn.body = some c) (hn : (fn.name == "runtime.NumGoroutine") = false) (args : Array Value) (w : World) :
    (callFunc g args).run P w = .ok (.enter g args) w := by
  have hn' : ¬ fn.name = "runtime.NumGoroutine" := by simpa using hn
  simp [callFunc, Sem.run_bind, program, Sem.run, Result.andThen, hf, hb, hn']
def resFun (tmps : Array Value) (r : ResultVar) : Sem Value :=
  match r with
  | .tmp t => pure (tmps.getD t undef)
  | .cell a t => do loadVar t (← asAddr (tmps.getD a undef))
theorem resOne_run {ι : Io} {h : H} {w : World} {e : Env} {tmps : Array Value} (hS : RelS P base ι h w) (hE : RelE ι e tmps) {r : ResultVar} {x : ARes} {v : AV} (hc : compRes P r = some x) (hr : resOne e h x = some v) :
    ∃ v', (resFun tmps r).run P w = .ok v' w ∧ RelV ι v v' := by
  cases r with
  | tmp t =>
    cases hc
    cases hr
    exact ⟨_, by simp [resFun], hE t⟩
  | cell a t =>
    simp only [compRes, Option.map_eq_some_iff] at hc
    obtain ⟨n, hn, rfl⟩ := hc
    simp only [resOne] at hr
    split at hr
    · rename_i b o hp
      split at hr
      · rename_i l own hl
        have hv := hE a
        rw [hp] at hv
        obtain ⟨q, hq, hv⟩ := rel_ptr hv
        obtain ⟨r', h1, h2⟩ := run_load_var hS hl hq hn hr
        exact ⟨r', by simp [resFun, hv, asAddr, h1], h2⟩
      · cases hr
    · cases hr
theorem resAll_run {ι : Io} {h : H} {w : World} {e : Env} {tmps : Array Value} (hS : RelS P base ι h w) (hE : RelE ι e tmps) : ∀ {l : List ResultVar} {rs : List ARes} {vs : List AV}, compResL P l = some rs → resAll e h rs = some vs →
    ∃ vs', (l.mapM (resFun tmps)).run P w = .ok vs' w ∧ RelL ι vs vs'
  | [], rs, vs, hc, hr => by
    cases hc; cases hr
    exact ⟨[], by simp, .nil⟩
  | r :: l, rs, vs, hc, hr => by
    simp only [compResL] at hc
    split at hc
    · rename_i x xs h1 h2
      cases hc
      simp only [resAll] at hr
      split at hr
      · rename_i v vs' h3 h4
        cases hr
        obtain ⟨v', h5, h6⟩ := resOne_run hS hE h1 h3
        obtain ⟨vs', h7, h8⟩ := resAll_run hS hE h2 h4
        refine ⟨v' :: vs', ?_, .cons h6 h8⟩
        rw [List.mapM_cons]
        simp only [Sem.run_bind, h5, Result.andThen_ok, h7]
        rfl
      · cases hr
    · cases hc
theorem results_run {ι : Io} {h : H} {w : World} {e : Env} {tmps : Array Value} (hS : RelS P base ι h w) (hE : RelE ι e tmps) {fn : Func} {rs : List ARes} {vs : List AV} (hc : compResL P fn.results.toList = some rs) (hr : resAll e h rs = some vs) :
    ∃ v, (results fn tmps).run P w = .ok v w ∧ RelV ι (tupOf vs) v := by
  obtain ⟨vs', h1, h2⟩ := resAll_run hS hE hc hr
  have h3 : results fn tmps = (do let vs ← fn.results.mapM (resFun tmps); pure (if h : vs.size = 1 then vs[0] else .tuple vs)) := rfl
  rw [h3, Array.mapM_eq_mapM_toList]
  simp only [Sem.run_bind, Sem.run_map, h1, Result.andThen_ok]
  match vs, vs', h2 with
  | [], [], _ => exact ⟨.tuple #[], by simp, .tup rfl (by simp)⟩
  | [v], [v'], h2 => exact ⟨v', by simp, h2.head⟩
  | v :: u :: l, v' :: u' :: l', h2 => exact ⟨.tuple (v' :: u' :: l').toArray, by simp, h2.tup⟩
  | [], _ :: _, h2 => cases h2.1
  | _ :: _, [], h2 => cases h2.1
  | [_], _ :: _ :: _, h2 => simp [RelL] at h2
  | _ :: _ :: _, [_], h2 => simp [RelL] at h2
theorem filter_rel {ι : Io} {p : Nat → Bool} : ∀ {l : List AEnt} {l' : List MapEntry}, RelEs ι l l' → RelEs ι (l.filter fun x => p x.born) (l'.filter fun x => p x.born)
  | [], [], h => ⟨rfl, by simp⟩
  | [], _ :: _, h => by cases h.1
  | _ :: _, [], h => by cases h.1
  | x :: l, y :: l', h => by
    have hxy : RelEnt ι x y := h.2 0 x y rfl rfl
    have ht : RelEs ι l l' := ⟨by simpa using h.1, fun i a b ha hb => h.2 (i + 1) a b (by simpa using ha) (by simpa using hb)⟩
    have ih := filter_rel (p := p) ht
    rw [List.filter_cons, List.filter_cons, ← hxy.2.2]
    split
    · refine ⟨by simp [ih.1], fun i a b ha hb => ?_⟩
      cases i with
      | zero => simp at ha hb; subst ha; subst hb; exact hxy
      | succ i => simp at ha hb; exact ih.2 i a b ha hb
    · exact ih
theorem RelEs.app {ι : Io} {a b : List AEnt} {a' b' : List MapEntry} (h : RelEs ι a a') (k : RelEs ι b b') : RelEs ι (a ++ b) (a' ++ b') :=
  ⟨by simp [h.1, k.1], fun i x v hx hv => by
    rw [List.getElem?_append] at hx hv
    rw [← h.1] at hv
    split at hx
    · rename_i hi; rw [if_pos hi] at hv; exact h.2 i x v hx hv
    · rename_i hi; rw [if_neg hi] at hv; exact k.2 _ x v hx hv⟩
theorem all_rel {ι : Io} {p : Nat → Bool} : ∀ {l : List AEnt} {l' : List MapEntry}, RelEs ι l l' → (l.all fun x => p x.born) = (l'.all fun x => p x.born)
  | [], [], _ => rfl
  | [], _ :: _, h => by cases h.1
  | _ :: _, [], h => by cases h.1
  | x :: l, y :: l', h => by
    have hxy : RelEnt ι x y := h.2 0 x y rfl rfl
    have ht : RelEs ι l l' := ⟨by simpa using h.1, fun i a b ha hb => h.2 (i + 1) a b (by simpa using ha) (by simpa using hb)⟩
    simp only [List.all_cons, all_rel ht, hxy.2.2]
theorem RelEs.empty {ι : Io} {l : List AEnt} {l' : List MapEntry} (h : RelEs ι l l') : l.isEmpty = l'.isEmpty := by
  cases l <;> cases l' <;> first | rfl | cases h.1
def candC (es : Array MapEntry) (since : Nat) (seen : Array Nat) : Array (Option MapEntry) :=
  (if ((es.filter fun e => !seen.contains e.born).filter (·.born < since)).isEmpty then #[none] else #[]) ++ (((es.filter fun e => !seen.contains e.born).filter (·.born < since)) ++ ((es.filter fun e => !seen.contains e.born).filter (·.born ≥ since))).map some
theorem cand_rel {ι : Io} {es : List AEnt} {es' : Array MapEntry} (h : RelEs ι es es'.toList) (since : Nat) (seen : List Nat) :
    (candidates es since seen).length = (candC es' since seen.toArray).size ∧
    ∀ (i : Nat), i < (candidates es since seen).length → ((candidates es since seen)[i]? = some none ∧ (candC es' since seen.toArray)[i]? = some none) ∨
      (∃ x y, (candidates es since seen)[i]? = some (some x) ∧ (candC es' since seen.toArray)[i]? = some (some y) ∧ RelEnt ι x y) := by
  have h1 : RelEs ι (es.filter fun x => !seen.contains x.born) (es'.toList.filter fun x => !seen.contains x.born) := filter_rel (p := fun n => !seen.contains n) h
  have h2 : RelEs ι ((es.filter fun x => !seen.contains x.born).filter (·.born < since)) ((es'.toList.filter fun x => !seen.contains x.born).filter (·.born < since)) := filter_rel (p := fun n => decide (n < since)) h1
  have h3 : RelEs ι ((es.filter fun x => !seen.contains x.born).filter (fun x => !decide (x.born < since))) ((es'.toList.filter fun x => !seen.contains x.born).filter (fun x => !decide (x.born < since))) := filter_rel (p := fun n => !decide (n < since)) h1
  have e1 : (candC es' since seen.toArray).toList = (if ((es'.toList.filter fun x => !seen.contains x.born).filter (·.born < since)).isEmpty then [none] else []) ++ (((es'.toList.filter fun x => !seen.contains x.born).filter (·.born < since)) ++ ((es'.toList.filter fun x => !seen.contains x.born).filter (fun x => !decide (x.born < since)))).map some := by
    have hge : (fun (x : MapEntry) => decide (x.born ≥ since)) = fun x => !decide (x.born < since) := by funext x; by_cases h : x.born < since <;> simp [h] <;> omega
    have hemp : ((es'.filter fun e => !seen.toArray.contains e.born).filter (·.born < since)).isEmpty = ((es'.toList.filter fun x => !seen.contains x.born).filter (·.born < since)).isEmpty := by
      rw [← Array.isEmpty_toList]; simp
    unfold candC
    rw [hemp, hge]
    simp only [Array.toList_append, Array.toList_map, Array.toList_filter]
    congr 1
    · split <;> rfl
    · simp
  rw [← h2.empty] at e1
  have e2 : (candidates es since seen) = (if ((es.filter fun x => !seen.contains x.born).filter (·.born < since)).isEmpty then [none] else []) ++ (((es.filter fun x => !seen.contains x.born).filter (·.born < since)) ++ ((es.filter fun x => !seen.contains x.born).filter (fun x => !decide (x.born < since)))).map some := rfl
  have hlr := h2.app h3
  have key : ∀ (pre : List (Option AEnt)) (pre' : List (Option MapEntry)), (pre = [] ∧ pre' = []) ∨ (pre = [none] ∧ pre' = [none]) → ∀ {A : List AEnt} {B : List MapEntry}, RelEs ι A B →
      (pre ++ A.map some).length = (pre' ++ B.map some).length ∧ ∀ (i : Nat), i < (pre ++ A.map some).length → ((pre ++ A.map some)[i]? = some none ∧ (pre' ++ B.map some)[i]? = some none) ∨
      (∃ x y, (pre ++ A.map some)[i]? = some (some x) ∧ (pre' ++ B.map some)[i]? = some (some y) ∧ RelEnt ι x y) := by
    intro pre pre' hp A B hAB
    have main : ∀ i, i < A.length → ∃ x y, (A.map some)[i]? = some (some x) ∧ (B.map some)[i]? = some (some y) ∧ RelEnt ι x y := by
      intro i hi
      have hi' : i < B.length := by rw [← hAB.1]; exact hi
      exact ⟨A[i], B[i], by simp [hi], by simp [hi'], hAB.2 i _ _ (by simp [hi]) (by simp [hi'])⟩
    rcases hp with ⟨rfl, rfl⟩ | ⟨rfl, rfl⟩
    · refine ⟨by simp [hAB.1], fun i hi => .inr ?_⟩
      simp only [List.nil_append, List.length_map] at hi ⊢
      exact main i hi
    · refine ⟨by simp [hAB.1], fun i hi => ?_⟩
      cases i with
      | zero => exact .inl ⟨rfl, rfl⟩
      | succ i =>
        right
        simp only [List.cons_append, List.nil_append, List.getElem?_cons_succ, List.length_cons, List.length_map] at hi ⊢
        exact main i (by omega)
  rw [e2, ← Array.length_toList, e1]
  simp only [← Array.getElem?_toList, e1]
  refine key _ _ ?_ hlr
  split
  · exact .inr ⟨rfl, rfl⟩
  · exact .inl ⟨rfl, rfl⟩
theorem next_sim {ι : Io} {h : H} {w : World} (hS : RelS P base ι h w) {it : AV} {itv : Value} (hi : RelV ι it itv) {Q : AV → H → Prop} (hQ : (nextF false it h).all fun r => Q r.1 r.2) (ty : TypeId) :
    ∃ v v' h' w', (Instr.next itv false ty).run P w = .ok v' w' ∧ Q v h' ∧ RelV ι v v' ∧ RelS P base ι h' w' ∧ StepR ι h w ι h' w' := by
  unfold nextF nextS at hQ
  simp only at hQ
  split at hQ
  · rename_i r
    obtain ⟨q, hq, rfl⟩ := rel_ptr hi
    split at hQ
    · rename_i since seen last hr
      obtain ⟨q', hq', hlt, hb, h0, m', hheap, hm⟩ := hS.blk r _ hr
      rw [hq] at hq'; cases hq'
      cases m' with
      | some _ => exact hm.elim
      | none =>
        refine ⟨_, .tuple #[.bool false], h, w, ?_, hQ, RelL.tup (l' := [.bool false]) (.cons (.bool false) .nil), hS, .refl _ _ _⟩
        simp only [Instr.next, h0]
        simp [getObj, Sem.run, hheap, Result.andThen]
    · rename_i m since seen last hr
      obtain ⟨q', hq', hlt, hb, h0, m', hheap, hm⟩ := hS.blk r _ hr
      rw [hq] at hq'; cases hq'
      cases m' with
      | none => exact hm.elim
      | some mB =>
        obtain ⟨qm, hqm, hmB⟩ := hm
        split at hQ
        · rename_i es clock hmap
          obtain ⟨qm', hqm', hltm, hbm, es', hheapm, hes⟩ := hS.blk m _ hmap
          rw [hqm] at hqm'; cases hqm'
          rw [hmB] at hheapm
          split at hQ
          · exact hQ.elim
          · rename_i hchk
            obtain ⟨hpos, hQ⟩ := hQ
            obtain ⟨hlen, hcand⟩ := cand_rel hes since seen
            have hchk' : (!seen.toArray.isEmpty && !es'.isEmpty && es'.all fun x => decide (x.born ≥ last)) = false := by
              have e1 : seen.toArray.isEmpty = seen.isEmpty := by cases seen <;> rfl
              have e2 : es'.isEmpty = es.isEmpty := by rw [hes.empty, Array.isEmpty_toList]
              have e3 : (es'.all fun x => decide (x.born ≥ last)) = es.all fun x => !decide (x.born < last) := by
                have hge : (fun (x : MapEntry) => decide (x.born ≥ last)) = fun x => !decide (x.born < last) := by funext x; by_cases h : x.born < last <;> simp [h] <;> omega
                rw [hge, ← Array.all_toList]
                exact (all_rel (p := fun n => !decide (n < last)) hes).symm
              rw [e1, e2, e3]
              simpa using hchk
            have hch : ∃ (j : Nat) (w1 : World), j < (candC es' since seen.toArray).size ∧ (w1 = w ∨ w1 = w.drew) ∧ (choose (Question.mapNext (candC es' since seen.toArray).size)).run P w = .ok j w1 := by
              by_cases hf : (candC es' since seen.toArray).size ≤ 1
              · exact ⟨0, w, by omega, .inl rfl, by simp [choose, Sem.run, Question.forced, hf]⟩
              · exact ⟨_, w.drew, Nat.mod_lt _ (by omega), .inr rfl, by
                  simp only [choose, Sem.run, Question.forced, decide_eq_true_eq, hf, if_false, Question.cut]
                  rfl⟩
            obtain ⟨j, w1, hj, hw1, hrun⟩ := hch
            have hheap1 : w1.heap = w.heap := by rcases hw1 with rfl | rfl <;> rfl
            have hos1 : SameS w w1 := by rcases hw1 with rfl | rfl <;> exact ⟨rfl, rfl, rfl⟩
            have hS1 : RelS P base ι h w1 := hS.same (fun _ => rfl) (Nat.le_refl _) hheap1
            have hj' : j < (candidates es since seen).length := by rw [hlen]; exact hj
            have hQj := hQ j hj'
            have hrr : (Instr.next (.pointer (some ⟨q.B, q.O + 0, none⟩)) false ty).run P w =
                (match (candC es' since seen.toArray)[j]? with
                | some (some e) => (do setObj q.B (.mapIter (some mB) since (seen.toArray.push e.born) clock); pure (.tuple #[.bool true, e.key, e.val]) : Sem Value)
                | some none => pure (.tuple #[.bool false])
                | none => stuck "Next: no such candidate").run P w1 := by
              simp only [Instr.next, h0]
              simp only [getObj, Sem.run_bind, Sem.run, hheap, Result.andThen_ok, hheapm, hchk', Bool.false_eq_true, if_false]
              have hrun' := hrun
              unfold candC at hrun'
              simp only [hrun', Result.andThen_ok]
              unfold candC
              rfl
            rw [hrr]
            rcases hcand j hj' with ⟨c1, c2⟩ | ⟨x, y, c1, c2, hxy⟩
            · rw [c2]
              simp only [c1] at hQj
              exact ⟨_, .tuple #[.bool false], h, w1, by simp, hQj, RelL.tup (l' := [.bool false]) (.cons (.bool false) .nil), hS1, StepR.same (fun _ => rfl) hheap1 hos1⟩
            · rw [c2]
              simp only [c1] at hQj
              have hr1 : w1.heap[q.B]? = some (.mapIter (some mB) since seen.toArray last) := by rw [hheap1]; exact hheap
              have hne : h.get r = some (.iter (some m) since seen last) := hr
              have hB : RelB P ι base (w1.putObj q.B (.mapIter (some mB) since (seen.toArray.push y.born) clock)).heap q (.iter (some m) since (seen ++ [x.born]) clock) := by
                refine ⟨hb, h0, some mB, ?_, qm, hqm, hmB⟩
                rw [World.putObj_heap_same (by rw [hheap1]; exact hlt), hxy.2.2]
                simp
              obtain ⟨hS2, hst⟩ := hS1.put (w' := w1.putObj q.B (.mapIter (some mB) since (seen.toArray.push y.born) clock)) hne rfl hq (by simp) (fun k hk => World.putObj_heap_other hk) hB
              refine ⟨_, .tuple #[.bool true, y.key, y.val], _, _, ?_, hQj, RelL.tup (l' := [.bool true, y.key, y.val]) (.cons (.bool true) (.cons hxy.1 (.cons hxy.2.1 .nil))), hS2, (StepR.same (fun _ => rfl) hheap1 hos1).trans hst⟩
              have : (setObj q.B (.mapIter (some mB) since (seen.toArray.push y.born) clock)).run P w1 = .ok () (w1.putObj q.B (.mapIter (some mB) since (seen.toArray.push y.born) clock)) := by
                simp [setObj, Sem.run, hr1, World.putObj]
              simp only [Sem.run_bind, this, Result.andThen_ok, Sem.run_pure]
        · exact hQ.elim
    · exact hQ.elim
  · exact hQ.elim
theorem find_rel {ι : Io} {b : Nat} {x : AEnt} : ∀ {es : List AEnt} {es' : List MapEntry}, RelEs ι es es' → (es.find? fun x => Nat.beq x.born b) = some x →
    ∃ y, (es'.find? fun y => y.born == b) = some y ∧ RelV ι x.key y.key ∧ RelV ι x.val y.val
  | [], _, _, hx => by cases hx
  | a :: es, [], h, _ => by cases h.1
  | a :: es, y :: es', h, hx => by
    have hxy : RelEnt ι a y := h.2 0 a y rfl rfl
    have ht : RelEs ι es es' := ⟨by simpa using h.1, fun i a b ha hb => h.2 (i + 1) a b (by simpa using ha) (by simpa using hb)⟩
    rw [List.find?_cons] at hx ⊢
    have e : (y.born == b) = Nat.beq a.born b := by rw [hxy.2.2]; cases hb : Nat.beq y.born b with
      | true => exact beq_iff_eq.2 (Nat.eq_of_beq_eq_true hb)
      | false => exact beq_eq_false_iff_ne.2 (Nat.ne_of_beq_eq_false hb)
    rw [e]
    cases hb : Nat.beq a.born b with
    | true =>
      rw [hb] at hx
      cases hx
      exact ⟨y, rfl, hxy.1, hxy.2.1⟩
    | false =>
      rw [hb] at hx
      exact find_rel ht hx
theorem ent_sim {ι : Io} {h : H} {w : World} (hS : RelS P base ι h w) {it : AV} {itv : Value} (hi : RelV ι it itv) {Q : AV → H → Prop} (hQ : (nextF true it h).all fun r => Q r.1 r.2) :
    ∃ v v', (Instr.entry itv).run P w = .ok v' w ∧ Q v h ∧ RelV ι v v' := by
  obtain ⟨⟨v, h'⟩, hr, hq⟩ := T.all_ofOpt.1 (show (T.ofOpt ((entF it h).map fun v => (v, h))).all _ from hQ)
  obtain ⟨v, hv, he⟩ := Option.map_eq_some_iff.1 hr
  cases he
  unfold entF at hv
  split at hv
  · rename_i r
    obtain ⟨q, hq', rfl⟩ := rel_ptr hi
    split at hv
    · rename_i m since seen last hr
      obtain ⟨q', hq2, hlt, hb, h0, m', hheap, hm⟩ := hS.blk r _ hr
      rw [hq'] at hq2; cases hq2
      cases m' with
      | none => exact hm.elim
      | some mB =>
        obtain ⟨qm, hqm, hmB⟩ := hm
        split at hv
        · rename_i b es clock hlast hmap
          obtain ⟨qm', hqm', hltm, hbm, es', hheapm, hes⟩ := hS.blk m _ hmap
          rw [hqm] at hqm'; cases hqm'
          rw [hmB] at hheapm
          rw [cond_eq_ite] at hv
          split at hv
          · rename_i hc
            have hc := Nat.eq_of_beq_eq_true hc
            subst hc
            obtain ⟨x, hx, rfl⟩ := Option.map_eq_some_iff.1 hv
            obtain ⟨y, hy, hk, hvl⟩ := find_rel hes hx
            refine ⟨_, .tuple #[y.key, y.val], ?_, hq, RelL.tup (l' := [y.key, y.val]) (.cons hk (.cons hvl .nil))⟩
            have hy' : es'.find? (fun y => y.born == b) = some y := by rw [← Array.find?_toList]; exact hy
            have hb' : seen.toArray.back? = some b := by rw [List.back?_toArray]; exact hlast
            simp only [Instr.entry, h0]
            simp only [getObj, Sem.run_bind, Sem.run, hheap, Result.andThen_ok, hb', hheapm, bne_self_eq_false, Bool.false_eq_true, if_false, hy', Sem.run_pure]
          · cases hv
        · cases hv
    · cases hv
  · cases hv
end Go.Ax
end
section
namespace Go.Ax
variable {P : Program} {base : Nat}
def Marks (n0 : Nat) (ι : Io) (h : H) (l : List Deferred) (w : World) : Prop :=
  (∀ d ∈ l, ∃ r, d.target = .collected r ∧ n0 ≤ r ∧ w.heap[r]? = some (.deferred (some [])) ∧ ¬ Img ι h r) ∧ l.Pairwise fun d d' => d.target ≠ d'.target
structure SimA (P : Program) (base nt n0 : Nat) (ι : Io) (e : Env) (h : H) (a : Act) (w : World) : Prop where
  s : RelS P base ι h w
  b : base ≤ w.heap.size
  e : RelE ι e a.tmps
  n : a.tmps.size = nt
  m : Marks n0 ι h a.defers w
  nb : n0 ≤ w.heap.size
def ExR : EX → Exit → Prop
  | .normal, .normal => True
  | .ret, .ret => True
  | .exit id, .exit id' => id = id'
  | _, _ => False
def Post (P : Program) (base nt n0 : Nat) (Q : EX → Env → H → Prop) (ι0 : Io) (h0 : H) (w0 : World) (ex : Exit) (a : Act) (w : World) : Prop :=
  ∃ x e h ι, Q x e h ∧ ExR x ex ∧ SimA P base nt n0 ι e h a w ∧ StepR ι0 h0 w0 ι h w
def RndR (ι : Io) : Option Nat → Option Nat → Prop
  | none, none => True
  | some l, some B => ∃ p, ι l = some p ∧ p.B = B
  | _, _ => False
theorem RndR.ext {ι ι' : Io} (he : Ext ι ι') {x y : Option Nat} (h : RndR ι x y) : RndR ι' x y := by
  cases x <;> cases y <;> first | trivial | exact h.elim | (obtain ⟨p, hp, hb⟩ := h; exact ⟨p, he _ _ hp, hb⟩)
theorem Marks.step {n0 : Nat} {ι ι' : Io} {h h' : H} {l : List Deferred} {w w' : World} (hm : Marks n0 ι h l w) (st : StepR ι h w ι' h' w') : Marks n0 ι' h' l w' :=
  ⟨fun d hd => by
    obtain ⟨r, h1, h2, h3, h4⟩ := hm.1 d hd
    have hlt : r < w.heap.size := (Array.getElem?_eq_some_iff.1 h3).1
    obtain ⟨h5, h6⟩ := st.fr r hlt h4
    exact ⟨r, h1, h2, by rw [h5]; exact h3, h6⟩, hm.2⟩
theorem Post.from {nt n0 : Nat} {Q : EX → Env → H → Prop} {ι0 ι1 : Io} {h0 h1 : H} {w0 w1 : World} {ex : Exit} {a : Act} {w : World} (st : StepR ι0 h0 w0 ι1 h1 w1) (hp : Post P base nt n0 Q ι1 h1 w1 ex a w) : Post P base nt n0 Q ι0 h0 w0 ex a w := by
  obtain ⟨x, e, h, ι, h1, h2, h3, h4⟩ := hp
  exact ⟨x, e, h, ι, h1, h2, h3, st.trans h4⟩
theorem SimA.step {nt n0 : Nat} {ι ι' : Io} {e e' : Env} {h h' : H} {a : Act} {w w' : World} (hs : SimA P base nt n0 ι e h a w) (st : StepR ι h w ι' h' w') (hS : RelS P base ι' h' w') {d : Option Nat} {v' : Value} (hE : RelE ι' e' (a.put d v').tmps) :
    SimA P base nt n0 ι' e' h' (a.put d v') w' := by
  refine ⟨hS, Nat.le_trans hs.b st.size, hE, ?_, ?_, Nat.le_trans hs.nb st.size⟩
  · cases d with
    | none => exact hs.n
    | some t => simp only [Act.put, Array.size_setIfInBounds]; exact hs.n
  · have : (a.put d v').defers = a.defers := by cases d <;> rfl
    rw [this]; exact hs.m.step st
def RetR (P : Program) (base : Nat) (Q : AV → H → Prop) (ι : Io) (h : H) (w : World) : Ending → World → Prop
  | .returned v, w' => ∃ av h' ι', Q av h' ∧ RelV ι' av v ∧ RelS P base ι' h' w' ∧ StepR ι h w ι' h' w'
  | _, _ => False
def UpOk (P : Program) (base : Nat) (Q : AV → H → Prop) (ι : Io) (h : H) (w : World) : Next → Prop
  | .enter g args => ∀ ro k, CallsIn (FR ro) k P g args w (RetR P base Q ι h w)
  | .round l f tmps asg body => ∀ ro k, RoundIn (FR ro) k P l f tmps asg body w (RetR P base Q ι h w)
  | _ => False
def CallSim (P : Program) (base : Nat) (call : Cf) : Prop :=
  ∀ (f : AV) (args : List AV) (h : H) (fv : Value) (argsv : List Value) (ι : Io) (w : World) (Q : AV → H → Prop), (call f args h).all (fun r => Q r.1 r.2) → RelS P base ι h w → base ≤ w.heap.size → RelV ι f fv → RelL ι args argsv →
    ∃ d nx, (Deferred.ofValue fv argsv.toArray).run P w = .ok d w ∧ (invoke d.target d.args).run P w = .ok nx w ∧ UpOk P base Q ι h w nx ∧ (f.isFunc = true → ∃ g as, nx = .enter g as)
theorem callOp_call {c : Call} {f : AO} {args : List AO} (h : callOp P c = .call f args) : ∃ g, c.callee = .value g ∧ f = ao g ∧ args = c.args.toList.map ao := by
  unfold callOp at h
  split at h
  · rename_i g hg; cases h; exact ⟨g, hg, rfl, rfl⟩
  · cases h
  · simp only at h
    repeat' split at h
    all_goals cases h
theorem callOp_next {c : Call} {b : Bool} {x : AO} (h : callOp P c = .next b x) : False := by
  unfold callOp at h
  split at h
  · cases h
  · cases h
  · simp only at h
    repeat' split at h
    all_goals cases h
theorem eqOp_call {neg : Bool} {t : TypeId} {x y : AO} {f : AO} {args : List AO} (h : eqOp P neg t x y = .call f args) : False := by
  unfold eqOp at h
  repeat' split at h
  all_goals cases h
theorem eqOp_next {neg : Bool} {t : TypeId} {x y : AO} {b : Bool} {f : AO} (h : eqOp P neg t x y = .next b f) : False := by
  unfold eqOp at h
  repeat' split at h
  all_goals cases h
theorem compOp_call {o : Oper} {f : AO} {args : List AO} (h : compOp P o = .call f args) : ∃ c g, o.op = .call c ∧ c.callee = .value g ∧ f = ao g ∧ args = c.args.toList.map ao := by
  unfold compOp at h
  split at h
  all_goals first
    | (cases h; done)
    | (obtain ⟨g, h1, h2, h3⟩ := callOp_call h; exact ⟨_, g, by assumption, h1, h2, h3⟩)
    | ((repeat' split at h) <;> first | (cases h; done) | exact (eqOp_call h).elim)
theorem compOp_next {o : Oper} {b : Bool} {x : AO} (h : compOp P o = .next b x) : ∃ y, ((b = false ∧ o.op = .next y false) ∨ (b = true ∧ o.op = .entry y)) ∧ x = ao y := by
  unfold compOp at h
  split at h
  all_goals first
    | (cases h; done)
    | exact (callOp_next h).elim
    | (cases h; exact ⟨_, .inl ⟨rfl, by assumption⟩, rfl⟩)
    | (cases h; exact ⟨_, .inr ⟨rfl, by assumption⟩, rfl⟩)
    | ((repeat' split at h) <;> first | (cases h; done) | exact (eqOp_next h).elim)
theorem compOp_defer {o : Oper} {c : Call} (h : o.op = .defer c) : compOp P o = .bad := by
  simp only [compOp, h]
theorem op_kind_cases (op : AOp) (e : Env) : (∃ f args, op = .call f args) ∨ (∃ b it, op = .next b it) ∨ op.kind e = .loc (opLoc op e) := by
  cases op <;> first | exact .inl ⟨_, _, rfl⟩ | exact .inr (.inl ⟨_, _, rfl⟩) | exact .inr (.inr rfl)
theorem bad_all {call : Cf} {aid : Nat} {e : Env} {h : H} {Q : AV × H × FP → Prop} (hr : ((AOp.bad.kind e).run call aid h).all Q) : False := by
  have hr : (T.ofOpt (Loc.no.run aid h)).all Q := hr
  rw [Loc.run_no] at hr
  exact hr
theorem opSim {call : Cf} (hcall : CallSim P base call) {ops : Array Oper} {o : Oper} {nt n0 : Nat} {ι : Io} {e : Env} {h : H} {a : Act} {w : World} {aid k : Nat} {ro : Option Nat}
    (hs : SimA P base nt n0 ι e h a w) (hn : h.get aid = none) {Q : Exit → Act → World → Prop} {K : Act → World → Prop} {K' : Env → H → FP → Prop}
    (hd : ∀ t, o.dst = some t → t < nt)
    (hK : ∀ ι' e' h' a' w' fp, K' e' h' fp → SimA P base nt n0 ι' e' h' a' w' → StepR ι h w ι' h' w' → K a' w')
    (hr : (((compOp P o).kind e).run call aid h).all fun r => K' (e.put o.dst r.1) r.2.1 r.2.2) : o.wpIn (FR ro) k P a w K Q := by
  refine ⟨fun _ _ => trivial, ?_⟩
  have hdef : ∀ c, o.op ≠ .defer c := by
    intro c hc
    rw [compOp_defer hc] at hr
    exact (bad_all hr).elim
  rw [Oper.semAt_eq _ _ _ hdef]
  have hd' : ∀ t, o.dst = some t → t < a.tmps.size := by rw [hs.n]; exact hd
  rcases op_kind_cases (compOp P o) e with ⟨f, args, hop⟩ | ⟨en, it, hop⟩ | hk
  · rw [hop] at hr
    obtain ⟨c, g, ho, hcal, rfl, rfl⟩ := compOp_call hop
    have hr := (T.all_bind _ _).1 (show ((call ((ao g).ev e) ((c.args.toList.map ao).map (·.ev e)) { h with wmin := h.next }).bind fun r => .ret (r.1, aft h r.2, fpC h r.2)).all _ from hr)
    have hS' : RelS P base ι { h with wmin := h.next } w := hs.s.same (fun _ => rfl) (Nat.le_refl _) rfl
    obtain ⟨d, nx, h1, h2, h3, _⟩ := hcall _ _ _ (a.eval g) (c.args.toList.map a.eval) ι w (fun v h' => K' (e.put o.dst v) (aft h h') (fpC h h')) hr hS' hs.b (ao_rel hs.e g) (ao_relL hs.e _)
    have hrun : (execOp a.eval o).run P w = .ok nx w := by
      simp only [execOp, ho, resolve, hcal, Sem.run_bind]
      have : c.args.map a.eval = (c.args.toList.map a.eval).toArray := by rw [← Array.toList_map]
      rw [this, h1]
      simpa using h2
    rw [hrun]
    have key : ∀ v w', RetR P base (fun v h' => K' (e.put o.dst v) (aft h h') (fpC h h')) ι { h with wmin := h.next } w (.returned v) w' → K (a.put o.dst v) w' := by
      rintro v w' ⟨av, h', ι', hq, hv, hS2, st⟩
      have hS3 : RelS P base ι' (aft h h') w' := hS2.same (fun _ => rfl) (Nat.le_refl _) rfl
      have st' : StepR ι h w ι' (aft h h') w' := ⟨st.ext, st.size, st.fr, st.os⟩
      exact hK ι' _ _ _ w' _ hq (hs.step st' hS3 ((hs.e.ext st.ext).put hv o.dst hd')) st'
    cases nx with
    | enter gf as =>
      rw [Oper.uponIn_enter]
      refine ⟨FR_depth ro k, (h3 ro (k - 1)).mono ?_⟩
      rintro (v | ch | _) w' hR
      · exact key v w' hR
      · exact hR.elim
      · exact hR.elim
    | round l f tmps asg body =>
      rw [Oper.uponIn_round]
      refine ⟨FR_depth ro k, (h3 ro (k - 1)).mono ?_⟩
      rintro (v | ch | _) w' hR
      · exact key v w' hR
      · exact hR.elim
      · exact hR.elim
    | _ => exact h3.elim
  · rw [hop] at hr
    obtain ⟨y, ho, rfl⟩ := compOp_next hop
    have hr := (T.all_bind _ _).1 (show ((nextF en ((ao y).ev e) h).bind fun r => T.ret (r.1, r.2, FP.big)).all (fun r => K' (e.put o.dst r.1) r.2.1 r.2.2) from hr)
    rcases ho with ⟨rfl, ho⟩ | ⟨rfl, ho⟩
    rotate_left
    · obtain ⟨v, v', h1, h2, h3⟩ := ent_sim hs.s (ao_rel hs.e y) (Q := fun v h' => K' (e.put o.dst v) h' .big) hr
      have hrun : (execOp a.eval o).run P w = .ok (.value v') w := by
        simp only [execOp, ho, Sem.run_bind, h1]
        rfl
      rw [hrun, Oper.uponIn_value]
      exact hK ι _ _ _ w _ h2 (hs.step (.refl _ _ _) hs.s (hs.e.put h3 o.dst hd')) (.refl _ _ _)
    obtain ⟨v, v', h', w', h1, h2, h3, h4, h5⟩ := next_sim hs.s (ao_rel hs.e y) (Q := fun v h' => K' (e.put o.dst v) h' .big) hr o.type
    have hrun : (execOp a.eval o).run P w = .ok (.value v') w' := by
      simp only [execOp, ho, Sem.run_bind, h1]
      rfl
    rw [hrun, Oper.uponIn_value]
    exact hK ι _ _ _ w' _ h2 (hs.step h5 h4 (hs.e.put h3 o.dst hd')) h5
  · rw [hk] at hr
    obtain ⟨⟨v, h', fp⟩, hrun, hq⟩ := T.all_ofOpt.1 hr
    obtain ⟨n, v', w', ι', h1, h2, h3, h4, h5⟩ := op_sim o ι e h w a aid v h' fp hs.s hs.b hs.e hn hrun
    rw [h1]
    have fin : K (a.put o.dst v') w' := hK ι' _ _ _ w' _ hq (hs.step h5 h4 ((hs.e.ext h5.ext).put h3 o.dst hd')) h5
    rcases h2 with rfl | ⟨rfl, rfl⟩
    · rw [Oper.uponIn_value]; exact fin
    · rw [Oper.uponIn_skip]; exact fin
theorem bool_of_rel {ι : Io} {e : Env} {tmps : Array Value} (hE : RelE ι e tmps) {t : Nat} {b : Bool} (h : e.get t = .bool b) : tmps[t]? = some (.bool b) := by
  have hv := hE t
  rw [h] at hv
  cases ht : tmps[t]? with
  | none =>
    rw [Array.getD_eq_getD_getElem?, ht] at hv
    simp only [Option.getD_none, undef] at hv
    cases hv
  | some x =>
    rw [Array.getD_eq_getD_getElem?, ht] at hv
    simp only [Option.getD_some] at hv
    cases hv
    rfl
theorem skip_of_rel {ι : Io} {e : Env} {tmps : Array Value} (hE : RelE ι e tmps) {t : Nat} (h : e.get t = .tup []) : tmps[t]? = none ∨ ∃ l, tmps[t]? = some (.tuple l) := by
  have hv := hE t
  rw [h, Array.getD_eq_getD_getElem?] at hv
  cases ht : tmps[t]? with
  | none => exact .inl rfl
  | some x =>
    rw [ht] at hv
    simp only [Option.getD_some] at hv
    cases hv
    exact .inr ⟨_, rfl⟩
theorem RelE.put_skip {ι : Io} {e : Env} {a : Act} (h : RelE ι e a.tmps) (dst : Option Nat) : RelE ι (e.put dst (.tup [])) (a.put dst undef).tmps := by
  cases dst with
  | none => exact h
  | some d =>
    intro t
    rw [Env.get_put_some]
    simp only [Act.put]
    rw [Array.getD_eq_getD_getElem?, Array.getElem?_setIfInBounds]
    by_cases e1 : t = d
    · rw [if_pos e1, if_pos e1.symm]
      have hu : RelV ι (.tup []) undef := .tup rfl fun i a v ha _ => by simp at ha
      split <;> exact hu
    · rw [if_neg e1, if_neg (Ne.symm e1), ← Array.getD_eq_getD_getElem?]
      exact h t
theorem operSim {call : Cf} (hcall : CallSim P base call) {ops : Array Oper} {i : Nat} {o : Oper} (ho : ops[i]? = some o) {nt n0 : Nat} {ι : Io} {e : Env} {h : H} {a : Act} {w : World} {aid k : Nat} {ro : Option Nat}
    (hs : SimA P base nt n0 ι e h a w) (hn : h.get aid = none) {Q : Exit → Act → World → Prop} {K : Act → World → Prop} {K' : Env → H → FP → Prop}
    (hK : ∀ ι' e' h' a' w' fp, K' e' h' fp → SimA P base nt n0 ι' e' h' a' w' → StepR ι h w ι' h' w' → K a' w')
    (hr : (stepG call aid (compOper P nt ops o) (e, h)).all fun r => K' r.1.1 r.1.2 r.2) : wpOpIn (FR ro) k P ops Q i K a w := by
  have hr := stepG_all.1 hr
  unfold wpOpIn
  simp only [ho]
  have hdst : (compOper P nt ops o).dst = o.dst := by
    unfold compOper
    simp only
    split
    · rfl
    · split <;> rfl
  rw [hdst] at hr
  -- the operation itself
  have main : ((((match o.dst with | none => compOp P o | some t => bif Nat.blt t nt then compOp P o else .bad) : AOp).kind e).run call aid h).all (fun r => K' (e.put o.dst r.1) r.2.1 r.2.2) → o.wpIn (FR ro) k P a w K Q := by
    intro hr
    cases hd : o.dst with
    | none =>
      rw [hd] at hr
      exact opSim (ops := ops) hcall hs hn (by rw [hd]; intro t ht; cases ht) hK (by rw [hd]; exact hr)
    | some t =>
      rw [hd] at hr
      simp only at hr
      cases hlt : Nat.blt t nt with
      | true =>
        rw [hlt] at hr
        exact opSim (ops := ops) hcall hs hn (by rw [hd]; intro u hu; cases hu; simpa [Nat.blt_eq] using hlt) hK (by rw [hd]; exact hr)
      | false =>
        rw [hlt] at hr
        exact (bad_all hr).elim
  cases hg : o.guard with
  | none =>
    have hw : Region.wanted o (yielded ops a.tmps) = true := by simp [Region.wanted, hg]
    rw [if_pos hw]
    refine main ?_
    have : compOper P nt ops o = ⟨o.dst, (match o.dst with | none => compOp P o | some t => bif Nat.blt t nt then compOp P o else .bad), none⟩ := by
      unfold compOper; simp only [hg]; rfl
    rw [this] at hr
    exact hr
  | some p =>
    obtain ⟨j, want⟩ := p
    cases ht : (ops[j]?).bind (·.dst) with
    | none =>
      have : compOper P nt ops o = ⟨o.dst, .bad, none⟩ := by
        unfold compOper; simp only [hg, ht]
      rw [this] at hr
      exact (bad_all hr).elim
    | some t =>
      have hco : compOper P nt ops o = ⟨o.dst, (match o.dst with | none => compOp P o | some t => bif Nat.blt t nt then compOp P o else .bad), some (t, want)⟩ := by
        unfold compOper; simp only [hg, ht]; rfl
      rw [hco] at hr
      unfold AOper.kind at hr
      simp only at hr
      split at hr
      · rename_i b hb
        have hyt : yielded ops a.tmps j = some b := by
          unfold yielded
          rw [ht]
          simp only [Option.bind_some]
          rw [bool_of_rel hs.e hb]
        have hw : Region.wanted o (yielded ops a.tmps) = (b == want) := by
          simp only [Region.wanted, hg, hyt]
          cases b <;> cases want <;> rfl
        cases hbw : (b == want) with
        | true =>
          rw [hw, hbw, if_pos rfl]
          rw [hbw] at hr
          exact main hr
        | false =>
          rw [hw, hbw, if_neg (by simp)]
          rw [hbw] at hr
          refine ⟨fun _ _ => trivial, ?_⟩
          exact hK ι _ _ _ w _ hr (hs.step (.refl _ _ _) hs.s (hs.e.put_skip o.dst)) (.refl _ _ _)
      · rename_i hb
        have hyt : yielded ops a.tmps j = none := by
          unfold yielded
          rw [ht]
          simp only [Option.bind_some]
          rcases skip_of_rel hs.e hb with h | ⟨l, h⟩ <;> rw [h]
        have hw : Region.wanted o (yielded ops a.tmps) = false := by
          simp only [Region.wanted, hg, hyt]
          cases want <;> rfl
        rw [hw, if_neg (by simp)]
        refine ⟨fun _ _ => trivial, ?_⟩
        exact hK ι _ _ _ w _ hr (hs.step (.refl _ _ _) hs.s (hs.e.put_skip o.dst)) (.refl _ _ _)
      · exact hr.elim
end Go.Ax
end
section
namespace Go.Ax
variable {P : Program} {base : Nat} {call : Cf}
theorem RelS.none_top {ι : Io} {h : H} {w : World} (hS : RelS P base ι h w) {b : Nat} (hb : h.next ≤ b) : h.get b = none := by
  cases hg : h.get b with
  | none => rfl
  | some x => have := hS.top b x hg; omega
theorem seqSim (hcall : CallSim P base call) {ops : Array Oper} {nt n0 k : Nat} {ro : Option Nat} {Q : EX → Env → H → Prop} {ι0 : Io} {h0 : H} {w0 : World} : ∀ (m k0 : Nat), k0 + m = ops.size → ∀ (ι : Io) (e : Env) (h : H) (a : Act) (w : World),
    SimA P base nt n0 ι e h a w → StepR ι0 h0 w0 ι h w → ((runSeq call ((ops.toList.drop k0).map (compOper P nt ops)) (e, h)).all fun s => Q .normal s.1 s.2) →
    wpOpsIn (FR ro) k P ops (Post P base nt n0 Q ι0 h0 w0) (List.range' k0 m) a w
  | 0, k0, hk, ι, e, h, a, w, hs, st, hr => by
    have : ops.toList.drop k0 = [] := List.drop_eq_nil_of_le (by simp; omega)
    rw [this] at hr
    exact ⟨.normal, e, h, ι, hr, trivial, hs, st⟩
  | m + 1, k0, hk, ι, e, h, a, w, hs, st, hr => by
    have hlt : k0 < ops.size := by omega
    have hd : ops.toList.drop k0 = ops[k0] :: ops.toList.drop (k0 + 1) := by rw [← Array.getElem_toList hlt]; exact List.drop_eq_getElem_cons (by simpa using hlt)
    rw [hd, List.map_cons] at hr
    have hr := (T.all_bind _ _).1 (show ((stepG call h.next (compOper P nt ops ops[k0]) (e, h)).bind fun r => runSeq call ((ops.toList.drop (k0 + 1)).map (compOper P nt ops)) r.1).all _ from hr)
    rw [List.range'_succ, wpOpsIn_cons]
    refine operSim hcall (Array.getElem?_eq_getElem hlt) hs (hs.s.none_top (Nat.le_refl _)) (K' := fun e' h' _ => (runSeq call ((ops.toList.drop (k0 + 1)).map (compOper P nt ops)) (e', h')).all fun s => Q .normal s.1 s.2) ?_ hr
    intro ι' e' h' a' w' fp hq hs' st'
    exact seqSim hcall m (k0 + 1) (by omega) ι' e' h' a' w' hs' (st.trans st') hq
theorem regionSim (hcall : CallSim P base call) {id : Nat} {ops : Array Oper} {nt n0 k : Nat} {ro : Option Nat} {Q : EX → Env → H → Prop} {ι : Io} {e : Env} {h : H} {a : Act} {w : World}
    (hs : SimA P base nt n0 ι e h a w) (hr : (runSeq call (ops.toList.map (compOper P nt ops)) (e, h)).all fun s => Q .normal s.1 s.2) :
    (Code.region id ops false).wpIn (FR ro) k P (Post P base nt n0 Q ι h w) a w := by
  refine wpIn_region ?_
  rw [List.range_eq_range']
  exact seqSim hcall ops.size 0 (by omega) ι e h a w hs (.refl _ _ _) hr
theorem fold_bits (acc : List Nat) (k : Nat) : ∀ (l : List Edge) (s0 : Nat), (l.foldl (fun s e => bif bindsAny e then s ||| 2 ^ e.on ||| acc.getD e.on 0 else s) s0).testBit k = true →
    s0.testBit k = true ∨ ∃ e ∈ l, bindsAny e = true ∧ (k = e.on ∨ (acc.getD e.on 0).testBit k = true)
  | [], _, h => .inl h
  | e :: l, s0, h => by
    rcases fold_bits acc k l _ h with h1 | ⟨e', he', h1⟩
    · cases hb : bindsAny e with
      | false => simp only [hb, cond_false] at h1; exact .inl h1
      | true =>
        simp only [hb, cond_true, Nat.testBit_or, Bool.or_eq_true, Nat.testBit_two_pow, decide_eq_true_eq] at h1
        rcases h1 with (h1 | h1) | h1
        · exact .inl h1
        · exact .inr ⟨e, by simp, hb, .inl h1.symm⟩
        · exact .inr ⟨e, by simp, hb, .inr h1⟩
    · exact .inr ⟨e', by simp [he'], h1⟩
theorem befores_spec : ∀ (l : List Oper) (i : Nat) (acc b : List Nat), befores l i acc = some b → acc.length = i →
    b.length = i + l.length ∧ (∀ k, k < i → b.getD k 0 = acc.getD k 0) ∧ ∀ m o, l[m]? = some o → (∀ e ∈ o.after, bindsAny e = true → e.on < i + m) ∧
      ∀ k, (b.getD (i + m) 0).testBit k = true → ∃ e ∈ o.after, bindsAny e = true ∧ (k = e.on ∨ (b.getD e.on 0).testBit k = true)
  | [], i, acc, b, h, hl => by
    cases h
    exact ⟨by simp [hl], fun _ _ => rfl, fun m o hm => by simp at hm⟩
  | o :: l, i, acc, b, h, hl => by
    simp only [befores] at h
    split at h
    · rename_i hall
      obtain ⟨h1, h2, h3⟩ := befores_spec l (i + 1) _ b h (by simp [hl])
      have hon : ∀ e ∈ o.after, bindsAny e = true → e.on < i := by
        intro e he hb
        have := Array.all_eq_true_iff_forall_mem.1 hall e he
        simp only [hb, Bool.not_true, Bool.false_or] at this
        simpa [Nat.blt_eq] using this
      refine ⟨by simp [h1]; omega, fun k hk => ?_, fun m o' hm => ?_⟩
      · rw [h2 k (by omega)]
        simp [List.getD_eq_getElem?_getD, List.getElem?_append, hl, hk]
      · cases m with
        | zero =>
          simp at hm
          subst hm
          refine ⟨fun e he hb => by have := hon e he hb; omega, fun k hk => ?_⟩
          have hbi : b.getD i 0 = o.after.foldl (fun s e => bif bindsAny e then s ||| 2 ^ e.on ||| acc.getD e.on 0 else s) 0 := by
            rw [h2 i (by omega)]
            simp [List.getD_eq_getElem?_getD, hl]
          rw [Nat.add_zero, hbi, ← Array.foldl_toList] at hk
          rcases fold_bits acc k o.after.toList 0 hk with h0 | ⟨e, he, hb, h0⟩
          · simp at h0
          · have he' : e ∈ o.after := by simpa using he
            refine ⟨e, he', hb, ?_⟩
            rcases h0 with h0 | h0
            · exact .inl h0
            · right
              have := hon e he' hb
              rw [h2 e.on (by omega)]
              simpa [List.getD_eq_getElem?_getD, List.getElem?_append, hl, this] using h0
        | succ m =>
          simp at hm
          obtain ⟨h4, h5⟩ := h3 m o' hm
          refine ⟨fun e he hb => by have := h4 e he hb; omega, fun k hk => ?_⟩
          rw [show i + (m + 1) = i + 1 + m by omega] at hk
          exact h5 k hk
    · cases h
def todoL (ops : Array Oper) (listed : Array Bool) : List Nat := (List.range ops.size).filter fun i => !listed.getD i true
theorem mem_todo {ops : Array Oper} {listed : Array Bool} {i : Nat} : i ∈ todoL ops listed ↔ i < ops.size ∧ listed.getD i true = false := by
  simp [todoL, List.mem_filter]
theorem todo_pair (ops : Array Oper) (listed : Array Bool) : (todoL ops listed).Pairwise (· < ·) := List.pairwise_lt_range.filter _
structure Regd (P : Program) (nt : Nat) (ops : Array Oper) (uno : List (Nat × Nat)) (b : List Nat) : Prop where
  on : ∀ (i : Nat) (o : Oper), ops[i]? = some o → ∀ e ∈ o.after, bindsAny e = true → e.on < i
  up : ∀ (i : Nat) (o : Oper), ops[i]? = some o → ∀ k, isBefore b k i = true → ∃ e ∈ o.after, bindsAny e = true ∧ (k = e.on ∨ isBefore b k e.on = true)
  free : ∀ j i, j < i → i < ops.size → isBefore b j i = false → Free (ops.toList.map (compOper P nt ops)) uno j i
theorem comp_draw {nt : Nat} {ops : Array Oper} {l : List AOper} {uno : List (Nat × Nat)} (h : compDraw P nt ops = .draw l uno) : l = ops.toList.map (compOper P nt ops) ∧ ∃ b, Regd P nt ops uno b := by
  unfold compDraw at h
  simp only at h
  split at h
  · cases h
  · rename_i b hb
    rw [cond_eq_ite] at h
    split at h
    · rename_i hall
      cases h
      refine ⟨rfl, b, ?_⟩
      obtain ⟨h1, _, h3⟩ := befores_spec _ 0 [] b hb rfl
      have hget : ∀ (i : Nat) (o : Oper), ops[i]? = some o → ops.toList[i]? = some o := fun i o h => by simpa using h
      refine ⟨fun i o ho e he hb => ?_, fun i o ho k hk => ?_, fun j i hji hi hnb => ⟨hji, fun o o' ho ho' => ?_⟩⟩
      · have := (h3 i o (hget i o ho)).1 e he hb; omega
      · have := (h3 i o (hget i o ho)).2 k
        rw [Nat.zero_add] at this
        exact this hk
      · have hm : (j, i) ∈ pairsU b (ops.toList.map (compOper P nt ops)).length := by
          unfold pairsU
          refine List.mem_flatMap.2 ⟨i, by simpa using hi, List.mem_map.2 ⟨j, List.mem_filter.2 ⟨by simpa using hji, by simp [hnb]⟩, rfl⟩⟩
        have hok := List.all_eq_true.1 hall _ hm
        unfold pairOk at hok
        simp only [ho, ho'] at hok
        refine ⟨apart_spec hok, ?_⟩
        cases hl : pairLoud (ops.toList.map (compOper P nt ops)) (j, i) with
        | true => exact .inl (List.mem_filter.2 ⟨hm, hl⟩)
        | false =>
          right
          unfold pairLoud at hl
          simp only [ho, ho'] at hl
          unfold Still
          simpa only [Bool.not_eq_false'] using hl
    · cases h
theorem filter_ne_of {l : List Nat} (hn : l.Pairwise (· < ·)) {i : Nat} (hi : i ∈ l) : ∃ A B, l = A ++ i :: B ∧ (∀ j ∈ A, j < i) ∧ l.filter (fun j => !(j == i)) = A ++ B := by
  obtain ⟨A, B, rfl⟩ := List.append_of_mem hi
  have h1 := List.pairwise_append.1 hn
  have hA : ∀ j ∈ A, j < i := fun j hj => h1.2.2 j hj i (by simp)
  have hB : ∀ j ∈ B, i < j := fun j hj => (List.pairwise_cons.1 h1.2.1).1 j hj
  refine ⟨A, B, rfl, hA, ?_⟩
  rw [List.filter_append, List.filter_cons_of_neg (by simp)]
  congr 1
  · exact List.filter_eq_self.2 fun j hj => by have := hA j hj; simp; omega
  · exact List.filter_eq_self.2 fun j hj => by have := hB j hj; simp; omega
theorem todo_set {ops : Array Oper} {listed : Array Bool} (hsz : listed.size = ops.size) (i : Nat) : todoL ops (listed.setIfInBounds i true) = (todoL ops listed).filter fun j => !(j == i) := by
  unfold todoL
  rw [List.filter_filter]
  refine List.filter_congr fun j hj => ?_
  have hj' : j < listed.size := by rw [hsz]; simpa using hj
  by_cases e : i = j
  · subst e
    rw [Array.getD_eq_getD_getElem?, Array.getElem?_setIfInBounds, if_pos rfl, if_pos hj']
    simp
  · rw [getD_set_ne true e]
    have : (j == i) = false := by simp; exact fun h => e h.symm
    simp [this]
theorem getD_bool {l : Array Bool} {i : Nat} (h : i < l.size) (d d' : Bool) : l.getD i d = l.getD i d' := by
  rw [Array.getD_eq_getD_getElem?, Array.getD_eq_getD_getElem?, Array.getElem?_eq_getElem h]; rfl
theorem anySim (hcall : CallSim P base call) (hi : CInv call) (hfr : CFr call) {ops : Array Oper} {uno : List (Nat × Nat)} {b : List Nat} {nt n0 b0 k : Nat} {ro : Option Nat} (hg : Regd P nt ops uno b) {Q : EX → Env → H → Prop} {ι0 : Io} {h0 : H} {w0 : World} :
    ∀ (fuel : Nat) (listed : Array Bool) (ι : Io) (e : Env) (h : H) (fs : PT FP) (a : Act) (w : World), listed.size = ops.size → (todoL ops listed).length = fuel →
      (∀ i, i < ops.size → listed.getD i true = true → ∀ j, isBefore b j i = true → listed.getD j false = true) →
      Todo b0 (todoL ops listed) (e, h) fs → SimA P base nt n0 ι e h a w → StepR ι0 h0 w0 ι h w →
      ((runFP call b0 (ops.toList.map (compOper P nt ops)) uno (todoL ops listed) (e, h) fs).all fun s => Q .normal s.1 s.2) →
      wpAnyIn (FR ro) k P .any ops (Post P base nt n0 Q ι0 h0 w0) fuel listed a w := by
  have hready0 : ∀ (listed : Array Bool), listed.size = ops.size → Region.ready .any ops listed = [] → todoL ops listed = [] := by
    intro listed hsz hr
    cases hL : todoL ops listed with
    | nil => rfl
    | cons m L =>
      exfalso
      have hm := mem_todo.1 (show m ∈ todoL ops listed by rw [hL]; simp)
      have hmin : ∀ j, j < m → listed.getD j true = true := by
        intro j hj
        cases hl : listed.getD j true with
        | true => rfl
        | false =>
          have hjm : j ∈ todoL ops listed := mem_todo.2 ⟨by omega, hl⟩
          have hp := todo_pair ops listed
          rw [hL] at hjm hp
          rcases List.mem_cons.1 hjm with e | e
          · omega
          · have := (List.pairwise_cons.1 hp).1 j e; omega
      have : m ∈ Region.ready .any ops listed := mem_ready.2 ⟨hm.2, ops[m], Array.getElem?_eq_getElem hm.1, fun e he hb => by
        have hlt := hg.on m _ (Array.getElem?_eq_getElem hm.1) e he hb
        rw [getD_bool (by rw [hsz]; omega) false true]
        exact hmin _ hlt⟩
      rw [hr] at this
      cases this
  intro fuel
  induction fuel with
  | zero =>
    intro listed ι e h fs a w hsz hlen _ _ hs st hr
    have hL : todoL ops listed = [] := List.eq_nil_of_length_eq_zero hlen
    refine ⟨?_, ?_⟩
    · rw [List.eq_nil_iff_forall_not_mem]
      intro i him
      obtain ⟨h0, o, ho, _⟩ := mem_ready.1 him
      have : i ∈ todoL ops listed := mem_todo.2 ⟨(Array.getElem?_eq_some_iff.1 ho).1, h0⟩
      rw [hL] at this; cases this
    · rw [hL] at hr
      exact ⟨.normal, e, h, ι, hr, trivial, hs, st⟩
  | succ fuel ih =>
    intro listed ι e h fs a w hsz hlen hcl htd hs st hr
    refine ⟨fun h0 => ?_, fun i him => ?_⟩
    · have := hready0 listed hsz h0
      rw [this] at hlen; cases hlen
    · obtain ⟨hun, o, ho, hedge⟩ := mem_ready.1 him
      have hilt : i < ops.size := (Array.getElem?_eq_some_iff.1 ho).1
      have hmem : i ∈ todoL ops listed := mem_todo.2 ⟨hilt, hun⟩
      -- whatever is before it is listed
      have hbef : ∀ j, isBefore b j i = true → listed.getD j false = true := by
        intro j hj
        obtain ⟨ed, he, hb, h1⟩ := hg.up i o ho j hj
        have hl := hedge ed he hb
        rcases h1 with rfl | h1
        · exact hl
        · have hlt := hg.on i o ho ed he hb
          exact hcl ed.on (by omega) (by rw [getD_bool (by rw [hsz]; omega) true false]; exact hl) j h1
      obtain ⟨A, B, hAB, hA, hfil⟩ := filter_ne_of (todo_pair ops listed) hmem
      have hset : todoL ops (listed.setIfInBounds i true) = A ++ B := by rw [todo_set hsz, hfil]
      have hfree : ∀ j ∈ A, Free (ops.toList.map (compOper P nt ops)) uno j i := by
        intro j hj
        have hjt := mem_todo.1 (show j ∈ todoL ops listed by rw [hAB]; simp [hj])
        refine hg.free j i (hA j hj) hilt ?_
        cases hbj : isBefore b j i with
        | false => rfl
        | true =>
          have := hbef j hbj
          rw [getD_bool (by rw [hsz]; exact hjt.1) false true, hjt.2] at this
          cases this
      have hnd : (A ++ i :: B).Nodup := by
        rw [← hAB]
        exact (todo_pair ops listed).imp fun h => Nat.ne_of_lt h
      rw [hAB] at hr htd
      have h1 := take_first hi hfr A (e, h) fs hfree hnd htd hr
      have h2 : (step1 call b0 (ops.toList.map (compOper P nt ops)) uno i (e, h) fs).lv fun p => Todo b0 (A ++ B) p.1 p.2 :=
        step1_todo hi (fun j hj => htd j (by simp at hj ⊢; rcases hj with hj | hj <;> simp [hj])) (fun j hj => by
          rintro rfl
          have := List.nodup_append.1 hnd
          simp at hj
          rcases hj with hj | hj
          · exact this.2.2 j hj j (by simp) rfl
          · exact (List.nodup_cons.1 this.2.1).1 hj)
      obtain ⟨o', ho', h3⟩ := step1_all.1 (T.all_lv h1 h2)
      have ho'' : o' = compOper P nt ops o := by
        rw [List.getElem?_map, show ops.toList[i]? = some o by simpa using ho] at ho'
        cases ho'; rfl
      subst ho''
      refine operSim hcall ho hs (htd i (by simp)).1.1 (K' := fun e' h' fp => okWith uno fs i fp = true ∧ (((runFP call b0 (ops.toList.map (compOper P nt ops)) uno (A ++ B) (e', h') (fs.set i fp)).all fun s => Q .normal s.1 s.2) ∧ Todo b0 (A ++ B) (e', h') (fs.set i fp))) ?_ h3
      rintro ι' e' h' a' w' fp ⟨_, hrun, htd'⟩ hs' st'
      refine ih (listed.setIfInBounds i true) ι' e' h' (fs.set i fp) a' w' (by simp [hsz]) ?_ ?_ (by rw [hset]; exact htd') hs' (st.trans st') (by rw [hset]; exact hrun)
      · rw [hset]
        rw [hAB] at hlen
        simp at hlen ⊢
        omega
      · intro m hm hlm j hj
        by_cases e1 : m = i
        · subst e1
          exact getD_set_true (hbef j hj)
        · rw [getD_set_ne true (Ne.symm e1)] at hlm
          exact getD_set_true (hcl m hm hlm j hj)
theorem drawSim (hm : P.follows .mixedOrders = true) (hcall : CallSim P base call) (hi : CInv call) (hfr : CFr call) {id : Nat} {ops : Array Oper} {l : List AOper} {uno : List (Nat × Nat)} {nt n0 k : Nat} {ro : Option Nat} {Q : EX → Env → H → Prop} {ι : Io} {e : Env} {h : H} {a : Act} {w : World}
    (hc : compDraw P nt ops = .draw l uno) (hs : SimA P base nt n0 ι e h a w) (hr : (runDraw call l uno (e, h)).all fun s => Q .normal s.1 s.2) :
    (Code.region id ops true).wpIn (FR ro) k P (Post P base nt n0 Q ι h w) a w := by
  obtain ⟨rfl, b, hg⟩ := comp_draw hc
  refine wpIn_region_any hm ?_
  have hL : todoL ops (Array.replicate ops.size false) = List.range ops.size := by
    unfold todoL
    refine List.filter_eq_self.2 fun i hi => ?_
    have : i < ops.size := by simpa using hi
    simp [Array.getElem?_replicate, this]
  have hS' : RelS P base ι { h with next := h.next + (ops.toList.map (compOper P nt ops)).length } { w with drawn := w.drawn + 1 } := hs.s.same (fun _ => rfl) (Nat.le_add_right _ _) rfl
  have st : StepR ι h w ι { h with next := h.next + (ops.toList.map (compOper P nt ops)).length } { w with drawn := w.drawn + 1 } := StepR.same (fun _ => rfl) rfl
  refine anySim hcall hi hfr hg (b0 := h.next) ops.size _ ι e _ .nil a _ (by simp) (by rw [hL]; simp) ?_ ?_ ⟨hS', hs.b, hs.e, hs.n, hs.m.step st, hs.nb⟩ st ?_
  · intro i hi hl
    simp [Array.getElem?_replicate, hi] at hl
  · intro j hj
    rw [hL] at hj
    have hj' : j < ops.size := by simpa using hj
    refine ⟨⟨hs.s.none_top (Nat.le_add_right _ _), ?_⟩, rfl⟩
    show h.next + j < h.next + (ops.toList.map (compOper P nt ops)).length
    simp; exact hj'
  · rw [hL]
    have := hr
    unfold runDraw at this
    simpa using this
end Go.Ax
end
section
namespace Go
section
variable {F : Fence} {n : Nat} {P : Program} {Q : Exit → Act → World → Prop} {a : Act} {w : World}
theorem axWpIn_loop {c : Code} (J : Nat → Act → World → Prop) (j0 : Nat) (h₀ : J j0 a w)
    (round : ∀ i a w, J i a w → c.wpIn F n P (Exit.then (fun a' w' => ∃ i', i' < i ∧ J i' a' w') Q) a w) : (Code.loop c).wpIn F n P Q a w := by
  intro b k cs hro hb hr
  have key : ∀ j a w, J j a w →
      ∃ e a' w', Q e a' w' ∧ ArrivesIn (Machine.fenced P F) P (lone (b.atR a (.code c :: .inLoop c :: k)) cs w) b k cs e a' w' := by
    intro j
    induction j using Nat.strongRecOn with
    | _ j ih =>
      intro a w hI
      obtain ⟨e, a₁, w₁, hq, harr⟩ := round j a w hI b (.inLoop c :: k) cs hro hb hr
      cases e with
      | normal =>
        obtain ⟨i', hlt, hI₁⟩ := hq
        obtain ⟨e₂, a₂, w₂, hq₂, harr₂⟩ := ih i' hlt a₁ w₁ hI₁
        exact ⟨e₂, a₂, w₂, hq₂, .of_steps (StepsIn.trans harr (.one (fenced_calm hb hr rfl) stepR_inLoop)) harr₂⟩
      | exit id => exact ⟨_, a₁, w₁, hq, .pass (x := .inLoop c) rfl (fun _ _ => .inl (by simp)) harr⟩
      | goto l => exact ⟨_, a₁, w₁, hq, .pass (x := .inLoop c) rfl (fun _ _ => .inl (by simp)) harr⟩
      | ret => exact ⟨_, a₁, w₁, hq, .pass (x := .inLoop c) rfl (fun _ _ => .inl (by simp)) harr⟩
      | panic ch => exact ⟨_, a₁, w₁, hq, .pass (x := .inLoop c) rfl (fun _ _ => .inl (by simp)) harr⟩
      | outgrown => exact ⟨_, a₁, w₁, hq, .pass (x := .inLoop c) rfl (fun _ _ => .inl (by simp)) harr⟩
  obtain ⟨e, a', w', hq, harr⟩ := key j0 a w h₀
  exact ⟨e, a', w', hq, .of_steps (.one (fenced_calm hb hr rfl) stepR_loop) harr⟩
end
end Go
open Go.RowKit (Below)
namespace Go.Ax
variable {P : Program} {base : Nat} {tbl : Nat → Option AFn}
theorem StepR.off {ι0 ι : Io} {h0 h : H} {w0 w w' : World} (st : StepR ι0 h0 w0 ι h w) (hsz : w.heap.size ≤ w'.heap.size) (hh : ∀ B, B < w0.heap.size → w'.heap[B]? = w.heap[B]?) (ho : SameS w w' := by exact ⟨rfl, rfl, rfl⟩) : StepR ι0 h0 w0 ι h w' :=
  ⟨st.ext, Nat.le_trans st.size hsz, fun B hB hi => ⟨(hh B hB).trans (st.fr B hB hi).1, (st.fr B hB hi).2⟩, st.os.trans ho⟩
theorem RelS.off {ι : Io} {h : H} {w w' : World} (hS : RelS P base ι h w) (hsz : w.heap.size ≤ w'.heap.size) (hh : ∀ b x p, h.get b = some x → ι b = some p → x ≠ .dead → w'.heap[p.B]? = w.heap[p.B]?) : RelS P base ι h w' :=
  ⟨fun b x hb => by
    obtain ⟨p, hp, hlt, hr⟩ := hS.blk b x hb
    exact ⟨p, hp, Nat.lt_of_lt_of_le hlt hsz, hr.ext (.refl ι) fun hd => hh b x p hb hp hd⟩, hS.unused, hS.inj, hS.top⟩
theorem RelS.shut {ι : Io} {h : H} {w : World} (hS : RelS P base ι h w) {r : Nat} {ds : Option (List Deferred)} (hr : w.heap[r]? = some (.deferred ds)) (hi : ¬ Img ι h r) (o : Obj) : RelS P base ι h (w.putObj r o) := by
  refine hS.off (by simp) fun b x p hb hp hd => World.putObj_heap_other ?_
  rintro rfl
  obtain ⟨q, hq, hlt, hrel⟩ := hS.blk b x hb
  rw [hp] at hq; cases hq
  by_cases hm : x.mine = true
  · exact hi ⟨b, x, p, hb, hm, hp, rfl⟩
  · cases x with
    | cells l own =>
      cases own with
      | true => exact hm rfl
      | false => obtain ⟨_, arr, ty, fz, h2, _⟩ := hrel; rw [hr] at h2; cases h2
    | dead => exact hd rfl
    | _ => exact hm rfl
theorem RelS.alloc {ι : Io} {h : H} {w : World} (hS : RelS P base ι h w) (o : Obj) : RelS P base ι h (w.alloc o) :=
  hS.off (by rw [size_alloc']; omega) fun b x p hb hp _ => heap_alloc_lt w o (by obtain ⟨q, hq, hlt, _⟩ := hS.blk b x hb; rw [hp] at hq; cases hq; exact hlt)
theorem not_img_top {ι : Io} {h : H} {w : World} (hS : RelS P base ι h w) {B : Nat} (hB : w.heap.size ≤ B) : ¬ Img ι h B := by
  rintro ⟨b, x, p, hb, _, hp, rfl⟩
  obtain ⟨q, hq, hlt, _⟩ := hS.blk b x hb
  rw [hp] at hq; cases hq
  omega
theorem leaves_marks {fn : Func} {rs : List ARes} (hc : compResL P fn.results.toList = some rs) {n0 k : Nat} {ι0 ι : Io} {h0 h : H} {w0 : World} {e : Env} {tmps : Array Value} (hE : RelE ι e tmps) {vs : List AV} (hv : resAll e h rs = some vs) {Q : AV → H → Prop} (hq : Q (tupOf vs) h) (hn : w0.heap.size ≤ n0) :
    ∀ (ds : List Deferred) (w : World), Marks n0 ι h ds w → RelS P base ι h w → StepR ι0 h0 w0 ι h w → LeavesInM (FR none) k P fn tmps (RetR P base Q ι0 h0 w0) ds .returning w
  | [], w, _, hS, st => by
    obtain ⟨v, h1, h2⟩ := results_run hS hE hc hv
    exact ⟨v, h1, _, h, ι, hq, h2, hS, st⟩
  | d :: ds, w, hm, hS, st => by
    obtain ⟨r, h1, h2, h3, h4⟩ := hm.1 d (by simp)
    refine ⟨by simp, .inl ⟨r, _, h1, run_takeDeferred h3, ?_⟩⟩
    refine leaves_marks hc hE hv hq hn ds _ ⟨fun d' hd' => ?_, (List.pairwise_cons.1 hm.2).2⟩ (hS.shut h3 h4 _) (st.off (by simp) fun B hB => World.putObj_heap_other (by omega))
    obtain ⟨r', h5, h6, h7, h8⟩ := hm.1 d' (by simp [hd'])
    refine ⟨r', h5, h6, ?_, h8⟩
    rw [World.putObj_heap_other]
    · exact h7
    · rintro rfl
      exact (List.pairwise_cons.1 hm.2).1 d' hd' (by rw [h1, h5])
theorem puts_get : ∀ (l : List AV) (e : Env) (i t : Nat), (Env.puts e i l).get t = if i ≤ t ∧ t < i + l.length then (l[t - i]?).getD .undef else e.get t
  | [], e, i, t => by simp only [Env.puts, List.length_nil]; rw [if_neg (by omega)]
  | v :: l, e, i, t => by
    simp only [Env.puts]
    rw [puts_get l _ (i + 1) t]
    by_cases h : i + 1 ≤ t ∧ t < i + 1 + l.length
    · rw [if_pos h, if_pos (by simp; omega)]
      rw [show t - i = (t - (i + 1)) + 1 by omega, List.getElem?_cons_succ]
    · rw [if_neg h]
      by_cases e1 : t = i
      · subst e1
        rw [if_pos (by simp)]
        simp [Env.get, PT.get_set]
      · rw [if_neg (by simp; omega)]
        simp only [Env.get, PT.get_set_ne _ _ e1]
theorem ofArgs_rel {ι : Io} {l : List AV} {l' : List Value} (h : RelL ι l l') (n : Nat) : RelE ι (Env.ofArgs l) (l'.toArray ++ Array.replicate n undef) := by
  intro t
  rw [Env.ofArgs, puts_get]
  by_cases ht : t < l.length
  · rw [if_pos (by omega), Nat.sub_zero]
    have ht' : t < l'.length := by rw [← h.1]; exact ht
    rw [Array.getD_eq_getD_getElem?, Array.getElem?_append_left (by simpa using ht')]
    simp only [List.getElem?_toArray]
    rw [List.getElem?_eq_getElem ht, List.getElem?_eq_getElem ht']
    exact h.2 t _ _ (List.getElem?_eq_getElem ht) (List.getElem?_eq_getElem ht')
  · rw [if_neg (by omega)]
    have : Env.get (PT.nil : Env) t = .undef := by simp [Env.get, PT.get_nil]
    rw [this]
    exact .undef _
theorem zipPut_rel {ι : Io} : ∀ {ps : List Nat} {as : List AV} {vs : List Value} {e e' : Env} {tmps : Array Value}, RelE ι e tmps → RelL ι as vs → zipPut e ps as = some e' → (∀ t ∈ ps, t < tmps.size) →
    as.length = ps.length ∧ RelE ι e' ((ps.zip vs).foldl (fun tmps (p : Nat × Value) => tmps.setIfInBounds p.1 p.2) tmps) ∧ ((ps.zip vs).foldl (fun tmps (p : Nat × Value) => tmps.setIfInBounds p.1 p.2) tmps).size = tmps.size
  | [], [], vs, e, e', tmps, hE, hL, hz, _ => by
    cases hz
    exact ⟨rfl, by simpa using hE, by simp⟩
  | [], _ :: _, _, _, _, _, _, _, hz, _ => by cases hz
  | _ :: _, [], _, _, _, _, _, _, hz, _ => by cases hz
  | p :: ps, x :: as, [], _, _, _, _, hL, _, _ => by cases hL.1
  | p :: ps, x :: as, v :: vs, e, e', tmps, hE, hL, hz, hps => by
    have h1 : RelE ι (PT.set e p x) (tmps.setIfInBounds p v) := by
      have := RelE.put (a := { tmps := tmps, defers := [] }) hE hL.head (some p) (by intro t ht; cases ht; exact hps p (by simp))
      exact this
    obtain ⟨h2, h3, h4⟩ := zipPut_rel (tmps := tmps.setIfInBounds p v) h1 hL.tail (show zipPut (PT.set e p x) ps as = some e' from hz) (fun t ht => by simpa using hps t (by simp [ht]))
    refine ⟨by simp [h2], by simpa using h3, ?_⟩
    rw [List.zip_cons_cons, List.foldl_cons, h4, Array.size_setIfInBounds]
theorem compF_inv {f : Func} {fn : AFn} (h : compF P f = some fn) : ∃ c rs, f.body = some c ∧ compResL P f.results.toList = some rs ∧ (f.name == "runtime.NumGoroutine") = false ∧ fn = ⟨f.ntmps, rs, comp P f.ntmps c⟩ := by
  unfold compF at h
  split at h
  · rename_i c rs h1 h2
    split at h
    · cases h
    · rename_i h3
      cases h
      exact ⟨c, rs, h1, h2, by simpa using h3, rfl⟩
  · cases h
def SimC (P : Program) (base : Nat) (ex : Ex) : Prop :=
  ∀ (c : Code) (rnd ro : Option Nat) (nt n0 : Nat) (ι : Io) (e : Env) (h : H) (a : Act) (w : World) (k : Nat) (Q : EX → Env → H → Prop), (ex rnd (comp P nt c) e h).all (fun r => Q r.1 r.2.1 r.2.2) →
    SimA P base nt n0 ι e h a w → RndR ι rnd ro → c.wpIn (FR ro) k P (Post P base nt n0 Q ι h w) a w
def oracle : AFn := ⟨0, [.tmp 0], .region [⟨some 0, .mv (.const (.bool true)), none⟩]⟩
def Ora (ex : Ex) : Prop := ∀ (h : H) (Q : EX × Env × H → Prop), (ex none oracle.body (Env.ofArgs []) h).all Q → Q (.normal, (Env.ofArgs []).put (some 0) (.bool true), h)
def TblOk (P : Program) (tbl : Nat → Option AFn) : Prop := ∀ g fn, tbl g = some fn → ∃ f fn', P.funcs[g]? = some f ∧ compF P f = some fn' ∧
  (fn = fn' ∨ (fn = oracle ∧ ∀ w, Calls P g #[] w fun e w' => e = .returned (.bool true) ∧ Below w.heap.size w w'))
theorem RelS.below {ι : Io} {h : H} {w w' : World} (hS : RelS P base ι h w) (hB : Below w.heap.size w w') : RelS P base ι h w' ∧ StepR ι h w ι h w' := by
  refine ⟨⟨fun b x hb => ?_, hS.unused, hS.inj, hS.top⟩, ⟨.refl ι, hB.size, fun B hlt hi => ⟨hB.block B hlt, hi⟩, hB.os, hB.tape, hB.output⟩⟩
  obtain ⟨p, hp, hlt, hr⟩ := hS.blk b x hb
  exact ⟨p, hp, Nat.lt_of_lt_of_le hlt hB.size, hr.ext (.refl ι) fun _ => hB.block _ hlt⟩
theorem loop_of {ι : Io} {h : H} {w : World} (hS : RelS P base ι h w) {l : Nat} {st : LSt} {pend : Option AC} {env : Env} {ps : List Nat} {asg body : AC} (hl : h.get l = some (.loop st pend env ps asg body)) :
    ∃ p, ι l = some p ∧ p.B < w.heap.size ∧ base ≤ p.B ∧ ∃ r : Loop, w.heap[p.B]? = some (.loop r) ∧ RelSt st r.state ∧ RelPend pend r.pending ∧ RelE ι env r.tmps ∧ r.params.toList = ps ∧ comp P r.tmps.size r.assign = asg ∧ comp P r.tmps.size r.body = body ∧ (∀ t ∈ ps, t < r.tmps.size) := by
  obtain ⟨p, hp, hlt, hb, r, h1⟩ := hS.blk l _ hl
  exact ⟨p, hp, hlt, hb, r, h1⟩
theorem callSim {ex : Ex} (hT : TblOk P tbl) (hor : Ora ex) (hex : SimC P base ex) : CallSim P base (callF tbl ex) := by
  intro f args h fv argsv ι w Q hr hS hb hf ha
  unfold callF at hr
  split at hr
  · -- a function
    rename_i g first caps
    split at hr
    · exact hr.elim
    · rename_i fn hfn
      obtain ⟨fd, fn', hfd, hcf, hfn' | ⟨rfl, hcl⟩⟩ := hT g fn hfn
      rotate_left
      · obtain ⟨c, rs, hbody, _, hname, _⟩ := compF_inv hcf
        rw [cond_eq_ite] at hr
        split at hr
        · rename_i hle
          have hl0 : ((first ++ args) ++ caps).length ≤ 0 := Nat.le_of_ble_eq_true hle
          have e0 : (first ++ args) ++ caps = [] := List.length_eq_zero_iff.1 (by omega)
          obtain ⟨e1, e3⟩ := List.append_eq_nil_iff.1 e0
          obtain ⟨e1, e2⟩ := List.append_eq_nil_iff.1 e1
          subst e1 e2 e3
          have hq := hor h _ ((T.all_bind _ _).1 hr)
          have hQ : Q (.bool true) h := hq
          have ea : argsv = [] := List.length_eq_zero_iff.1 ha.1.symm
          subst ea
          cases hf with
          | @fn _ f' _ _ first' caps' hF h1 h2 h3 h4 =>
            cases hF
            have e1 : first' = #[] := Array.eq_empty_of_size_eq_zero h1.symm
            have e2 : caps' = #[] := Array.eq_empty_of_size_eq_zero h3.symm
            subst e1; subst e2
            refine ⟨{ target := .fn (.func g) #[], args := #[] }, .enter g #[], ?_, ?_, ?_, fun _ => ⟨_, _, rfl⟩⟩
            · simp [Deferred.ofValue]
            · simp only [invoke]
              exact run_callFunc hfd hbody hname _ w
            · intro ro k
              have := callsIn_wide (n := k).2 ((hcl w).mono (R' := RetR P base Q ι h w) fun e w' hR => by
                obtain ⟨rfl, hB⟩ := hR
                obtain ⟨h5, h6⟩ := hS.below hB
                exact ⟨.bool true, h, ι, hQ, .bool true, h5, h6⟩)
              exact this
        · exact hr.elim
      subst hfn'
      obtain ⟨c, rs, hbody, hres, hname, rfl⟩ := compF_inv hcf
      rw [cond_eq_ite] at hr
      split at hr
      · rename_i hle
        cases hf with
        | @fn _ f' _ _ first' caps' hF h1 h2 h3 h4 =>
          cases hF
          have hfr : RelL ι first first'.toList := ⟨by simpa using h1, fun i a v ha hv => h2 i a v ha (by simpa using hv)⟩
          have hcr : RelL ι caps caps'.toList := ⟨by simpa using h3, fun i a v ha hv => h4 i a v ha (by simpa using hv)⟩
          have hall := (hfr.append ha).append hcr
          have harr : (first' ++ argsv.toArray) ++ caps' = ((first'.toList ++ argsv) ++ caps'.toList).toArray := by
            apply Array.ext'; simp
          refine ⟨{ target := .fn (.func g) caps', args := first' ++ argsv.toArray }, .enter g ((first' ++ argsv.toArray) ++ caps'), ?_, ?_, ?_, fun _ => ⟨_, _, rfl⟩⟩
          · simp [Deferred.ofValue]
          · simp only [invoke]
            exact run_callFunc hfd hbody hname _ w
          · intro ro k
            have hlen : ((first ++ args) ++ caps).length ≤ fd.ntmps := Nat.le_of_ble_eq_true hle
            have hsz : ((first' ++ argsv.toArray) ++ caps').size ≤ fd.ntmps := by
              rw [harr, List.size_toArray, ← hall.1]; exact hlen
            have hA : SimA P base fd.ntmps w.heap.size ι (Env.ofArgs ((first ++ args) ++ caps)) h { tmps := ((first' ++ argsv.toArray) ++ caps') ++ Array.replicate (fd.ntmps - ((first' ++ argsv.toArray) ++ caps').size) undef, defers := [] } w := by
              refine ⟨hS, hb, ?_, ?_, ⟨(fun d hd => by cases hd), .nil⟩, Nat.le_refl _⟩
              · rw [harr]; exact ofArgs_rel hall _
              · rw [Array.size_append, Array.size_replicate]; omega
            have hbind := (T.all_bind _ _).1 hr
            have hcall : CallsIn (FR none) k P g ((first' ++ argsv.toArray) ++ caps') w (RetR P base Q ι h w) := by
              refine callsIn_of_wp_marks hfd hbody trivial (wpIn_mono (hex c none none fd.ntmps w.heap.size ι _ h _ w k (fun x e h => match x with | .exit _ => False | _ => ∃ vs, resAll e h rs = some vs ∧ Q (tupOf vs) h) (T.all_mono ?_ hbind) hA trivial) ?_) rfl
              · rintro ⟨x, e', h'⟩ hx
                cases x with
                | exit _ => exact hx
                | _ =>
                  obtain ⟨q, hq, hQ⟩ := T.all_ofOpt.1 hx
                  simp only [Option.map_eq_some_iff] at hq
                  obtain ⟨vs, hvs, rfl⟩ := hq
                  exact ⟨vs, hvs, hQ⟩
              · rintro e1 a1 w1 ⟨x, e', h', ι', hq, hx, hs, st⟩
                cases x with
                | exit _ => exact hq.elim
                | normal =>
                  cases e1 <;> first | exact hx.elim | skip
                  obtain ⟨vs, hvs, hQ⟩ := hq
                  exact leaves_marks hres hs.e hvs hQ (Nat.le_refl _) _ _ hs.m hs.s st
                | ret =>
                  cases e1 <;> first | exact hx.elim | skip
                  obtain ⟨vs, hvs, hQ⟩ := hq
                  exact leaves_marks hres hs.e hvs hQ (Nat.le_refl _) _ _ hs.m hs.s st
            exact hcall
      · exact hr.elim
  · -- a round
    rename_i l
    split at hr
    · rename_i pend env ps asg body hl
      split at hr
      · exact hr.elim
      · rename_i e0 hz
        obtain ⟨p, hp, hlt, hpb, r, hheap, hst, hpend, hEnv, hps, hasg, hbod, hpss⟩ := loop_of hS hl
        cases hf with
        | @fn _ f' _ _ first' caps' hF h1 h2 h3 h4 =>
          cases hF with
          | @yield _ p' hp' =>
            rw [hp] at hp'; cases hp'
            have e1 : first' = #[] := Array.eq_empty_of_size_eq_zero h1.symm
            have e2 : caps' = #[] := Array.eq_empty_of_size_eq_zero h3.symm
            subst e1; subst e2
            obtain ⟨hlen, hE0, hsz0⟩ := zipPut_rel hEnv ha hz hpss
            have hsz : argsv.toArray.size = r.params.size := by
              rw [List.size_toArray, ← ha.1, hlen, ← hps]; simp
            have htm : (r.params.zip argsv.toArray).foldl (fun tmps (t, a) => tmps.setIfInBounds t a) r.tmps = (ps.zip argsv).foldl (fun tmps (p : Nat × Value) => tmps.setIfInBounds p.1 p.2) r.tmps := by
              rw [← hps, ← Array.foldl_toList, Array.toList_zip]
            refine ⟨{ target := .fn (.yield p.B) #[], args := argsv.toArray }, .round p.B r.fn ((r.params.zip argsv.toArray).foldl (fun tmps (t, a) => tmps.setIfInBounds t a) r.tmps) r.assign r.body, ?_, ?_, ?_, fun h => by cases h⟩
            · simp [Deferred.ofValue]
            · simp only [invoke]
              exact run_yield hheap hsz
            · intro ro k
              have hbind := (T.all_bind _ _).1 hr
              have hA : SimA P base r.tmps.size w.heap.size ι e0 h { tmps := (r.params.zip argsv.toArray).foldl (fun tmps (t, a) => tmps.setIfInBounds t a) r.tmps, defers := [] } w :=
                ⟨hS, hb, by rw [htm]; exact hE0, by rw [htm]; exact hsz0, ⟨(fun d hd => by cases hd), .nil⟩, Nat.le_refl _⟩
              have hround : RndR ι (some l) (some p.B) := ⟨p, hp, rfl⟩
              refine roundIn_of_wpIn trivial ?_
              have hw := hex r.assign (some l) (some p.B) r.tmps.size w.heap.size ι e0 h _ w k (fun x e h => match x with
                | .normal => match h.get l with
                  | some (.loop .ready p env ps asg body') => ((ex (some l) body e (h.put l (.loop .busy p env ps asg body'))).bind fun (x, _, h) => roundEnd l x h).all fun r => Q r.1 r.2
                  | _ => False
                | _ => False) (by rw [hasg]; exact T.all_mono (by
                  rintro ⟨x, e', h'⟩ hx
                  cases x with
                  | normal =>
                    simp only at hx ⊢
                    split at hx
                    · rename_i hg; rw [hg]; exact hx
                    · exact hx.elim
                  | _ => exact hx) hbind) hA hround
              refine wpIn_mono hw ?_
              rintro ex1 a1 w1 ⟨x, e', h', ι', hq, hx, hs, st⟩
              cases x with
              | exit _ => exact hq.elim
              | ret => exact hq.elim
              | normal =>
                cases ex1 <;> first | exact hx.elim | skip
                simp only at hq
                split at hq
                · rename_i pend1 env1 ps1 asg1 body1 hl1
                  obtain ⟨p1, hp1, hlt1, hpb1, r1, hheap1, hst1, hpend1, hEnv1, hps1, hasg1, hbod1, hpss1⟩ := loop_of hs.s hl1
                  have hpe : ι' l = some p := st.ext _ _ hp
                  rw [hpe] at hp1; cases hp1
                  have hready : r1.state = .ready := by
                    cases hstt : r1.state <;> rw [hstt] at hst1 <;> first | rfl | exact hst1.elim
                  refine ⟨_, run_beginRound hheap1 hready, ?_⟩
                  have hB1 : RelB P ι' base (w1.putObj p.B (.loop { r1 with state := .busy })).heap p (.loop .busy pend1 env1 ps1 asg1 body1) :=
                    ⟨hpb1, _, World.putObj_heap_same hlt1, trivial, hpend1, hEnv1, hps1, hasg1, hbod1, hpss1⟩
                  obtain ⟨hS2, st2⟩ := hs.s.put (w' := w1.putObj p.B (.loop { r1 with state := .busy })) hl1 rfl hpe (by simp) (fun k hk => World.putObj_heap_other hk) hB1
                  have hA2 : SimA P base r.tmps.size w.heap.size ι' e' _ a1 (w1.putObj p.B (.loop { r1 with state := .busy })) := ⟨hS2, Nat.le_trans hs.b st2.size, hs.e, hs.n, hs.m.step st2, Nat.le_trans hs.nb st2.size⟩
                  have hw2 := hex r.body (some l) (some p.B) r.tmps.size w.heap.size ι' e' _ a1 _ k (fun x _ h => (roundEnd l x h).all fun r => Q r.1 r.2) (by
                    rw [hbod]
                    exact T.all_mono (by rintro ⟨x, e2, h2⟩ hx; exact hx) ((T.all_bind _ _).1 hq)) hA2 ⟨p, hpe, rfl⟩
                  refine wpIn_mono hw2 ?_
                  rintro ex2 a2 w2 ⟨x, e2, h2, ι2, hq2, hx2, hs2, st3⟩
                  unfold roundEnd at hq2
                  split at hq2
                  · rename_i pend2 env2 ps2 asg2 body2 hl2
                    obtain ⟨p2, hp2, hlt2, hpb2, r2, hheap2, hst2', hpend2, hEnv2, hps2, hasg2, hbod2, hpss2⟩ := loop_of hs2.s hl2
                    have hpe2 : ι2 l = some p := st3.ext _ _ hpe
                    rw [hpe2] at hp2; cases hp2
                    have fin : ∀ (jump : Option Code) (stt : LSt) (pnd : Option AC), RelSt stt (if jump.isNone then .ready else .done) → RelPend pnd jump → Q (.bool jump.isNone) (h2.put l (.loop stt pnd env2 ps2 asg2 body2)) →
                        ∃ v w', (Instr.endRound p.B jump).run P w2 = .ok v w' ∧ RetR P base Q ι h w (.returned v) w' := by
                      intro jump stt pnd h5 h6 h7
                      have hB2 : RelB P ι2 base (w2.putObj p.B (.loop { r2 with state := if jump.isNone then .ready else .done, pending := jump })).heap p (.loop stt pnd env2 ps2 asg2 body2) :=
                        ⟨hpb2, _, World.putObj_heap_same hlt2, h5, h6, hEnv2, hps2, hasg2, hbod2, hpss2⟩
                      obtain ⟨hS3, st4⟩ := hs2.s.put (w' := w2.putObj p.B (.loop { r2 with state := if jump.isNone then .ready else .done, pending := jump })) hl2 rfl hpe2 (by simp) (fun k hk => World.putObj_heap_other hk) hB2
                      exact ⟨_, _, run_endRound jump hheap2, _, _, ι2, h7, .bool _, hS3, (st.trans st2).trans (st3.trans st4)⟩
                    cases x with
                    | normal =>
                      cases ex2 <;> first | exact hx2.elim | skip
                      exact fin none .ready none trivial trivial hq2
                    | ret =>
                      cases ex2 <;> first | exact hx2.elim | skip
                      exact fin (some .ret) .done (some .ret) trivial trivial hq2
                    | exit id =>
                      cases ex2 <;> first | exact hx2.elim | skip
                      cases hx2
                      exact fin (some (.exit _)) .done (some (.exit id)) trivial rfl hq2
                  · exact hq2.elim
                · exact hq.elim
    · exact hr.elim
  · exact hr.elim
end Go.Ax
end
section
namespace Go.Ax
variable {P : Program} {base : Nat} {tbl : Nat → Option AFn}
theorem fresh_loop {ι : Io} {h : H} {w w1 : World} (hS : RelS P base ι h w) (hb : base ≤ w.heap.size) {e : Env} {tmps : Array Value} (hE : RelE ι e tmps) {ps : Array Tmp} (hps : ∀ t ∈ ps.toList, t < tmps.size) {fn : FuncId} {asg body : Code} {df : Nat}
    (hS1 : RelS P base ι h w1) (hb1 : base ≤ w1.heap.size) (st1 : StepR ι h w ι h w1) :
    RelS P base (ι.put h.next ⟨w1.heap.size, 0, 0⟩) (h.new h.next (.loop .ready none e ps.toList (comp P tmps.size asg) (comp P tmps.size body)))
      (w1.alloc (.loop { state := .ready, pending := none, fn := fn, tmps := tmps, params := ps, assign := asg, body := body, defers := df })) ∧
    StepR ι h w (ι.put h.next ⟨w1.heap.size, 0, 0⟩) (h.new h.next (.loop .ready none e ps.toList (comp P tmps.size asg) (comp P tmps.size body)))
      (w1.alloc (.loop { state := .ready, pending := none, fn := fn, tmps := tmps, params := ps, assign := asg, body := body, defers := df })) := by
  have hn : h.get h.next = none := hS1.none_top (Nat.le_refl _)
  obtain ⟨h1, h2⟩ := hS1.fresh hb1 hn (.loop { state := .ready, pending := none, fn := fn, tmps := tmps, params := ps, assign := asg, body := body, defers := df }) ⟨w1.heap.size, 0, 0⟩ rfl (x := .loop .ready none e ps.toList (comp P tmps.size asg) (comp P tmps.size body)) (by
    refine ⟨hb1, _, heap_alloc_at w1 _, trivial, trivial, hE.ext (Ext.put _ (hS1.unused _ hn)), rfl, rfl, rfl, hps⟩)
  exact ⟨h1, st1.trans h2⟩
theorem rel_boolV {ι : Io} {t : Bool} {v : Value} (h : RelV ι (.bool t) v) : v = .bool t := by cases h; rfl
theorem ora_exec : ∀ n, Ora (exec tbl n)
  | 0 => fun _ _ h => h.elim
  | n + 1 => fun _ _ h => h
theorem simC (hT : TblOk P tbl) (hm : P.follows .mixedOrders = true) : ∀ n, SimC P base (exec tbl n) := by
  intro n
  induction n using Nat.strongRecOn with
  | _ n IH =>
  intro c rnd ro nt n0 ι e h a w k Q hr hs hrd
  cases n with
  | zero => exact hr.elim
  | succ n =>
  have ih : SimC P base (exec tbl n) := IH n (Nat.lt_succ_self n)
  have hcall : CallSim P base (callF tbl (exec tbl n)) := callSim hT (ora_exec n) ih
  have hinv : CInv (callF tbl (exec tbl n)) := callF_inv (exec_inv n)
  have hfr : CFr (callF tbl (exec tbl n)) := callF_frame (exec_inv n) (exec_frame n)
  have hr : (step tbl (exec tbl n) rnd (comp P nt c) e h).all (fun r => Q r.1 r.2.1 r.2.2) := hr
  have ngoto : ∀ l a' w', ¬ Post P base nt n0 Q ι h w (.goto l) a' w' := by
    rintro l a' w' ⟨x, _, _, _, _, hx, _⟩
    cases x <;> exact hx
  cases c with
  | skip => exact wpIn_skip ⟨.normal, e, h, ι, hr, trivial, hs, .refl _ _ _⟩
  | label l => exact wpIn_label ⟨.normal, e, h, ι, hr, trivial, hs, .refl _ _ _⟩
  | exit id => exact wpIn_exit ⟨.exit id, e, h, ι, hr, rfl, hs, .refl _ _ _⟩
  | ret => exact wpIn_ret ⟨.ret, e, h, ι, hr, trivial, hs, .refl _ _ _⟩
  | seq x y =>
    have h1 := (T.all_bind _ _).1 hr
    refine wpIn_seq (wpIn_mono (ih x rnd ro nt n0 ι e h a w k (fun x e h => match x with | .normal => (exec tbl n rnd (comp P nt y) e h).all (fun r => Q r.1 r.2.1 r.2.2) | x => Q x e h) (T.all_mono ?_ h1) hs hrd) ?_)
    · rintro ⟨x1, e1, h1⟩ hx
      cases x1 <;> exact hx
    · rintro ex a1 w1 ⟨x1, e1, h1, ι1, hq, hx, hs1, st1⟩
      cases x1 with
      | normal =>
        cases ex <;> first | exact hx.elim | skip
        exact wpIn_mono (ih y rnd ro nt n0 ι1 e1 h1 a1 w1 k Q hq hs1 (hrd.ext st1.ext)) fun ex a w hp => hp.from st1
      | ret =>
        cases ex <;> first | exact hx.elim | skip
        exact ⟨.ret, e1, h1, ι1, hq, hx, hs1, st1⟩
      | exit id =>
        cases ex <;> first | exact hx.elim | skip
        exact ⟨.exit id, e1, h1, ι1, hq, hx, hs1, st1⟩
  | cond c x y =>
    simp only [comp, step] at hr
    split at hr
    · rename_i t ht
      have hv := ao_rel hs.e c
      rw [ht] at hv
      have hc : a.eval c = .bool t := rel_boolV hv
      refine wpIn_cond hc ?_
      cases t with
      | true => exact ih x rnd ro nt n0 ι e h a w k Q hr hs hrd
      | false => exact ih y rnd ro nt n0 ι e h a w k Q hr hs hrd
    · exact hr.elim
  | block id b =>
    have h1 := (T.all_bind _ _).1 hr
    refine wpIn_block (wpIn_mono (ih b rnd ro nt n0 ι e h a w k (fun x e h => match x with | .exit id' => (if id' = id then Q .normal e h else Q (.exit id') e h) | x => Q x e h) (T.all_mono ?_ h1) hs hrd) ?_)
    · rintro ⟨x1, e1, h1⟩ hx
      cases x1 with
      | exit id' =>
        simp only [cond_eq_ite, Nat.beq_eq] at hx ⊢
        split at hx
        · rename_i he; rw [if_pos he]; exact hx
        · rename_i he; rw [if_neg he]; exact hx
      | _ => exact hx
    · rintro ex a1 w1 ⟨x1, e1, h1, ι1, hq, hx, hs1, st1⟩
      cases x1 with
      | normal =>
        cases ex <;> first | exact hx.elim | skip
        exact ⟨.normal, e1, h1, ι1, hq, hx, hs1, st1⟩
      | ret =>
        cases ex <;> first | exact hx.elim | skip
        exact ⟨.ret, e1, h1, ι1, hq, hx, hs1, st1⟩
      | exit id' =>
        cases ex <;> first | exact hx.elim | skip
        cases hx
        simp only [Exit.inBlock]
        simp only at hq
        split at hq
        · rename_i he; rw [if_pos he]; exact ⟨.normal, e1, h1, ι1, hq, trivial, hs1, st1⟩
        · rename_i he; rw [if_neg he]; exact ⟨.exit id', e1, h1, ι1, hq, rfl, hs1, st1⟩
  | loop b =>
    refine axWpIn_loop (fun j a' w' => j ≤ n + 1 ∧ ∃ ι' e' h', (exec tbl j rnd (.loop (comp P nt b)) e' h').all (fun r => Q r.1 r.2.1 r.2.2) ∧ SimA P base nt n0 ι' e' h' a' w' ∧ StepR ι h w ι' h' w') (n + 1) ⟨Nat.le_refl _, ι, e, h, hr, hs, .refl _ _ _⟩ ?_
    rintro i a1 w1 ⟨hi, ι1, e1, h1, hr1, hs1, st1⟩
    cases i with
    | zero => exact hr1.elim
    | succ i =>
      have h2 := (T.all_bind _ _).1 (show (step tbl (exec tbl i) rnd (.loop (comp P nt b)) e1 h1).all (fun r => Q r.1 r.2.1 r.2.2) from hr1)
      refine wpIn_mono (IH i (by omega) b rnd ro nt n0 ι1 e1 h1 a1 w1 k (fun x e h => match x with | .normal => (exec tbl i rnd (.loop (comp P nt b)) e h).all (fun r => Q r.1 r.2.1 r.2.2) | x => Q x e h) (T.all_mono ?_ h2) hs1 (hrd.ext st1.ext)) ?_
      · rintro ⟨x2, e2, h2⟩ hx
        cases x2 <;> exact hx
      · rintro ex a2 w2 ⟨x2, e2, h2, ι2, hq, hx, hs2, st2⟩
        cases x2 with
        | normal =>
          cases ex <;> first | exact hx.elim | skip
          exact ⟨i, Nat.lt_succ_self i, by omega, ι2, e2, h2, hq, hs2, st1.trans st2⟩
        | ret =>
          cases ex <;> first | exact hx.elim | skip
          exact ⟨.ret, e2, h2, ι2, hq, hx, hs2, st1.trans st2⟩
        | exit id =>
          cases ex <;> first | exact hx.elim | skip
          exact ⟨.exit id, e2, h2, ι2, hq, hx, hs2, st1.trans st2⟩
  | scope b => exact axWpIn_scope ngoto (ih b rnd ro nt n0 ι e h a w k Q hr hs hrd)
  | region id ops draw =>
    cases draw with
    | false =>
      have h1 := (T.all_bind _ _).1 (show ((runSeq (callF tbl (exec tbl n)) (ops.toList.map (compOper P nt ops)) (e, h)).bind fun s => .ret (.normal, s.1, s.2)).all (fun r => Q r.1 r.2.1 r.2.2) from hr)
      exact regionSim hcall hs (T.all_mono (fun s hx => hx) h1)
    | true =>
      have hr : (step tbl (exec tbl n) rnd (compDraw P nt ops) e h).all (fun r => Q r.1 r.2.1 r.2.2) := hr
      have hcases : (∃ l uno, compDraw P nt ops = .draw l uno) ∨ compDraw P nt ops = .bad := by
        unfold compDraw
        simp only
        split
        · exact .inr rfl
        · rw [cond_eq_ite]; split
          · exact .inl ⟨_, _, rfl⟩
          · exact .inr rfl
      rcases hcases with ⟨l, uno, hd⟩ | hd
      · rw [hd] at hr
        have h1 := (T.all_bind _ _).1 (show ((runDraw (callF tbl (exec tbl n)) l uno (e, h)).bind fun s => .ret (.normal, s.1, s.2)).all (fun r => Q r.1 r.2.1 r.2.2) from hr)
        exact drawSim hm hcall hinv hfr hd hs (T.all_mono (fun s hx => hx) h1)
      · rw [hd] at hr; exact hr.elim
  | rangeFunc g ps asg body =>
    simp only [comp, cond_eq_ite] at hr
    split at hr
    · rename_i hps
      have hps' : ∀ t ∈ ps.toList, t < a.tmps.size := fun t ht => by
        have := List.all_eq_true.1 hps t ht
        rw [hs.n]; simpa [Nat.blt_eq] using this
      simp only [step] at hr
      split at hr
      · exact hr.elim
      · rename_i hok
        simp only [Bool.and_eq_true] at hok
        obtain ⟨hround, hfunc⟩ := hok
        have hbind := (T.all_bind _ _).1 hr
        refine wpIn_rangeFunc fun fn _ => ?_
        -- the record is laid
        have hlaid : ∃ (mark : List Deferred) (w1 w2 : World) (r0 : Loop), (Instr.enterLoop fn a.tmps ps asg body (FR ro).round).run P w = .ok (w1.heap.size, mark) w2 ∧ w2 = w1.alloc (.loop r0) ∧
            RelS P base (ι.put h.next ⟨w1.heap.size, 0, 0⟩) (h.new h.next (.loop .ready none e ps.toList (comp P nt asg) (comp P nt body))) w2 ∧
            StepR ι h w (ι.put h.next ⟨w1.heap.size, 0, 0⟩) (h.new h.next (.loop .ready none e ps.toList (comp P nt asg) (comp P nt body))) w2 ∧
            Marks n0 (ι.put h.next ⟨w1.heap.size, 0, 0⟩) (h.new h.next (.loop .ready none e ps.toList (comp P nt asg) (comp P nt body))) (mark ++ a.defers) w2 := by
          cases ro with
          | none =>
            have hS1 := hs.s.alloc (.deferred (some []))
            have st1 : StepR ι h w ι h (w.alloc (.deferred (some []))) := (StepR.refl ι h w).off (by rw [size_alloc']; omega) fun B hB => heap_alloc_lt w _ hB
            have hb1 : base ≤ (w.alloc (.deferred (some []))).heap.size := by rw [size_alloc']; have := hs.b; omega
            obtain ⟨hS2, st2⟩ := fresh_loop (fn := fn) (asg := asg) (body := body) (df := w.heap.size) hs.s hs.b hs.e hps' hS1 hb1 st1
            rw [hs.n] at hS2 st2
            refine ⟨[{ target := .collected w.heap.size, args := #[] }], w.alloc (.deferred (some [])), _, _, ?_, rfl, hS2, st2, ?_⟩
            · rw [size_alloc']
              exact run_enterLoop_outer fn a.tmps ps asg body
            · have hm1 := hs.m.step st2
              have hlt : w.heap.size < (w.alloc (.deferred (some []))).heap.size := by rw [size_alloc']; omega
              refine ⟨fun d hd => ?_, List.pairwise_cons.2 ⟨fun d' hd' => ?_, hm1.2⟩⟩
              · rcases List.mem_cons.1 hd with rfl | hd
                · refine ⟨w.heap.size, rfl, hs.nb, ?_, ?_⟩
                  · rw [heap_alloc_lt _ _ hlt]; exact heap_alloc_at w _
                  · rintro ⟨b, x, p, hb, hmine, hp, hB⟩
                    rw [H.get_new] at hb
                    by_cases e1 : b = h.next
                    · subst e1
                      rw [Io.put_same] at hp; cases hp
                      simp only [size_alloc'] at hB
                      omega
                    · rw [if_neg e1] at hb
                      rw [Io.put_ne ι _ e1] at hp
                      exact not_img_top hs.s (Nat.le_refl _) ⟨b, x, p, hb, hmine, hp, hB⟩
                · exact hm1.1 d hd
              · obtain ⟨r, h1, _, h3, _⟩ := hs.m.1 d' hd'
                have : r < w.heap.size := (Array.getElem?_eq_some_iff.1 h3).1
                rw [h1]
                intro hc
                injection hc with hc
                omega
          | some B =>
            cases rnd with
            | none => exact hrd.elim
            | some l =>
              obtain ⟨p, hp, hpB⟩ := hrd
              have hl : ∃ st pend env ps' asg' body', h.get l = some (.loop st pend env ps' asg' body') := by
                simp only at hround
                split at hround
                · rename_i hg; exact ⟨_, _, _, _, _, _, hg⟩
                · cases hround
              obtain ⟨st', pend', env', ps', asg', body', hl⟩ := hl
              obtain ⟨q, hq, hlt, _, r0, hheap, _⟩ := loop_of hs.s hl
              rw [hp] at hq; cases hq
              rw [hpB] at hheap
              obtain ⟨hS2, st2⟩ := fresh_loop (fn := fn) (asg := asg) (body := body) (df := r0.defers) hs.s hs.b hs.e hps' hs.s hs.b (.refl _ _ _)
              rw [hs.n] at hS2 st2
              exact ⟨[], w, _, _, run_enterLoop_inner hheap fn a.tmps ps asg body, rfl, hS2, st2, hs.m.step st2⟩
        obtain ⟨mark, w1, w2, r0, hent, hw2, hS2, st2, hmk⟩ := hlaid
        have hB2 : base ≤ w2.heap.size := Nat.le_trans hs.b st2.size
        have hyield : RelL (ι.put h.next ⟨w1.heap.size, 0, 0⟩) [.fn (.yield h.next) [] []] [.func (.yield w1.heap.size) #[] #[]] :=
          .cons (.fn (.yield (Io.put_same _ _ _)) rfl (by simp) rfl (by simp)) .nil
        obtain ⟨d, nx, h1, h2, h3, h4⟩ := hcall _ _ _ (a.eval g) _ _ w2 (fun _ h' => match h'.get h.next with
          | some (.loop .busy ..) => False
          | some (.loop _ pend env ps asg body) => (match pend with
            | none => (T.ret (EX.normal, e, h'.put h.next (.loop .exhausted pend env ps asg body)) : T (EX × Env × H))
            | some c => exec tbl n rnd c e (h'.put h.next (.loop .exhausted pend env ps asg body))).all (fun r : EX × Env × H => Q r.1 r.2.1 r.2.2)
          | _ => False) (T.all_mono (by
            rintro ⟨v, h'⟩ hx
            simp only at hx ⊢
            cases hg : h'.get h.next with
            | none => rw [hg] at hx; exact hx.elim
            | some z =>
              rw [hg] at hx
              cases z with
              | loop st _ _ _ _ _ => cases st <;> exact hx
              | _ => exact hx.elim) hbind) hS2 hB2 ((ao_rel hs.e g).ext st2.ext) hyield
        obtain ⟨gf, as, rfl⟩ := h4 hfunc
        refine ⟨w1.heap.size, mark, w2, d, w2, gf, as, w2, hent, ?_, fun _ _ => trivial, h2, FR_depth ro k, (h3 ro (k - 1)).mono ?_⟩
        · have e1 : resolve a.eval (rangeCall g w1.heap.size) 0 = Deferred.ofValue (a.eval g) #[.func (.yield w1.heap.size) #[] #[]] := by simp [resolve, Act.eval]
          rw [e1]; exact h1
        · rintro (v | ch | _) w3 hR
          · obtain ⟨av, h', ι', hq, _, hS3, st3⟩ := hR
            cases hg : h'.get h.next with
            | none => rw [hg] at hq; exact hq.elim
            | some z =>
              rw [hg] at hq
              cases z with
              | loop st' pend' env' ps' asg' body' =>
                obtain ⟨q, hq', hlt, hqb, r, hheap, hst', hpend', hE', hps2, hasg', hbody', hpp⟩ := loop_of hS3 hg
                have hι : ι' h.next = some ⟨w1.heap.size, 0, 0⟩ := st3.ext _ _ (Io.put_same _ _ _)
                rw [hι] at hq'; cases hq'
                have hnb : r.state ≠ .busy := by
                  intro hbz
                  rw [hbz] at hst'
                  cases st' <;> first | exact hst'.elim | exact hq.elim
                have hq : ((match pend' with
                  | none => (T.ret (EX.normal, e, h'.put h.next (.loop .exhausted pend' env' ps' asg' body')) : T (EX × Env × H))
                  | some c => exec tbl n rnd c e (h'.put h.next (.loop .exhausted pend' env' ps' asg' body'))).all (fun r : EX × Env × H => Q r.1 r.2.1 r.2.2)) := by
                  cases st' with
                  | busy => exact hq.elim
                  | _ => exact hq
                refine ⟨r.pending, _, run_endLoop hheap hnb, ?_⟩
                have hB3 : RelB P ι' base (w3.putObj w1.heap.size (.loop { r with state := .exhausted })).heap ⟨w1.heap.size, 0, 0⟩ (.loop .exhausted pend' env' ps' asg' body') :=
                  ⟨hqb, _, World.putObj_heap_same hlt, trivial, hpend', hE', hps2, hasg', hbody', hpp⟩
                obtain ⟨hS4, st4⟩ := hS3.put (w' := w3.putObj w1.heap.size (.loop { r with state := .exhausted })) hg rfl hι (by simp) (fun k hk => World.putObj_heap_other hk) hB3
                have stA := (st2.trans st3).trans st4
                have hA : SimA P base nt n0 ι' e (h'.put h.next (.loop .exhausted pend' env' ps' asg' body')) { a with defers := mark ++ a.defers } (w3.putObj w1.heap.size (.loop { r with state := .exhausted })) :=
                  ⟨hS4, Nat.le_trans hs.b stA.size, hs.e.ext stA.ext, hs.n, (hmk.step st3).step st4, Nat.le_trans hs.nb stA.size⟩
                have hrd' : RndR ι' rnd ro := hrd.ext stA.ext
                have key : ∀ jump, RelPend pend' jump → (match jump with
                    | none => Post P base nt n0 Q ι h w .normal { a with defers := mark ++ a.defers } (w3.putObj w1.heap.size (.loop { r with state := .exhausted }))
                    | some c => c.wpIn (FR ro) k P (Post P base nt n0 Q ι h w) { a with defers := mark ++ a.defers } (w3.putObj w1.heap.size (.loop { r with state := .exhausted }))) := by
                  intro jump hpj
                  cases jump with
                  | none =>
                    cases pend' with
                    | none => exact ⟨.normal, e, _, ι', hq, trivial, hA, stA⟩
                    | some ac => cases ac <;> exact hpj.elim
                  | some c =>
                    cases pend' with
                    | none => exact hpj.elim
                    | some ac =>
                      have hac : ac = comp P nt c := by
                        cases ac <;> cases c <;> first | exact hpj.elim | rfl | (cases hpj; rfl)
                      subst hac
                      exact wpIn_mono (ih c rnd ro nt n0 ι' e _ _ _ k Q hq hA hrd') fun ex a w hp => hp.from stA
                exact key r.pending hpend'
              | _ => exact hq.elim
          · exact hR.elim
          · exact hR.elim
    · exact hr.elim
  | _ => exact hr.elim
end Go.Ax
end
section
open Go.RowKit
namespace Go.Ax
variable {P : Program} {tbl : Nat → Option AFn}
structure Given (P : Program) (ι : Io) (h : H) (w : World) : Prop where
  s : RelS P w.heap.size ι h w
  mine : ∀ b x, h.get b = some x → x.mine = false
def H.nil : H := ⟨0, 0, .nil⟩
theorem Given.none (P : Program) (w : World) : Given P (fun _ => Option.none) H.nil w :=
  ⟨⟨(fun b x h => by cases h), (fun _ _ => rfl), (fun b b' x x' p p' h => by cases h), (fun b x h => by cases h)⟩, (fun b x h => by cases h)⟩
theorem ax_calls (hT : TblOk P tbl) (hm : P.follows .mixedOrders = true) {n : Nat} {g : FuncId} {args : List AV} {argsv : List Value} {ι : Io} {h : H} {w : World} {x : AV} {v : Value} (hx : ∀ (ι : Io) (u : Value), RelV ι x u → u = v) (hG : Given P ι h w) (ha : RelL ι args argsv)
    (hr : (callF tbl (exec tbl n) (.fn (.func g) [] []) args h).all fun r => r.1 = x) :
    Calls P g argsv.toArray w fun e w' => e = .returned v ∧ Below w.heap.size w w' := by
  obtain ⟨d, nx, h1, h2, h3, _⟩ := callSim hT (ora_exec n) (simC (base := w.heap.size) hT hm n) (.fn (.func g) [] []) args h (.func (.func g) #[] #[]) argsv ι w (fun v _ => v = x) hr hG.s (Nat.le_refl _) (.fn (.func g) rfl (by simp) rfl (by simp)) ha
  simp only [Deferred.ofValue, Array.empty_append, Sem.run_pure, Result.ok.injEq] at h1
  obtain ⟨rfl, _⟩ := h1
  -- what is invoked is the function itself
  have hnx : ∃ as, nx = .enter g as ∧ as = argsv.toArray := by
    simp only [invoke, Array.append_empty] at h2
    unfold callF at hr
    simp only at hr
    split at hr
    · exact hr.elim
    · rename_i fn hfn
      obtain ⟨fd, fn', hfd, hcf, _⟩ := hT g fn hfn
      obtain ⟨c, rs, hbody, _, hname, _⟩ := compF_inv hcf
      rw [run_callFunc hfd hbody hname] at h2
      simp only [Result.ok.injEq] at h2
      exact ⟨_, h2.1.symm, rfl⟩
  obtain ⟨as, rfl, rfl⟩ := hnx
  have h4 : CallsIn Fence.wide 0 P g argsv.toArray w _ := h3 Option.none 0
  refine (callsIn_wide.1 h4).mono ?_
  rintro (u | ch | _) w' hR
  · obtain ⟨av, h', ι', rfl, hv, hS, st⟩ := hR
    refine ⟨by rw [hx _ _ hv], st.os.1, st.os.2.1, st.os.2.2, st.size, fun k hk => (st.fr k hk ?_).1⟩
    rintro ⟨b, x, p, hb, hmine, _, _⟩
    rw [hG.mine b x hb] at hmine
    cases hmine
  · exact hR.elim
  · exact hR.elim
theorem ax_true (hT : TblOk P tbl) (hm : P.follows .mixedOrders = true) {n : Nat} {g : FuncId} {args : List AV} {argsv : List Value} {ι : Io} {h : H} {w : World} (hG : Given P ι h w) (ha : RelL ι args argsv)
    (hr : (callF tbl (exec tbl n) (.fn (.func g) [] []) args h).all fun r => r.1 = .bool true) :
    Calls P g argsv.toArray w fun e w' => e = .returned (.bool true) ∧ Below w.heap.size w w' :=
  ax_calls hT hm (fun _ _ h => rel_boolV h) hG ha hr
end Go.Ax
end
section
namespace Go.Ax
def AllOk (P : Program) : List (Nat × AFn) → Prop
  | [] => True
  | p :: l => (∃ f, P.funcs[p.1]? = some f ∧ compF P f = some p.2) ∧ AllOk P l
theorem AllOk.tbl {P : Program} : ∀ {l : List (Nat × AFn)}, AllOk P l → TblOk P (look1 l)
  | [], _, _, _, h => by cases h
  | (k, f) :: l, hA, g, fn, h => by
    simp only [look1, cond_eq_ite, Nat.beq_eq] at h
    split at h
    · rename_i e
      cases h
      subst e
      obtain ⟨f, h1, h2⟩ := hA.1
      exact ⟨f, _, h1, h2, .inl rfl⟩
    · exact AllOk.tbl hA.2 g fn h
end Go.Ax
end
