/-
  Regions: in the text's order, and with a drawn one.
-/
import Derived.Test.YtmhbmnonichopaaXD1
namespace Go.Ax
variable {P : Program} {base : Nat} {call : Cf}

theorem RelS.none_top {ι : Io} {h : H} {w : World} (hS : RelS P base ι h w) {b : Nat} (hb : h.next ≤ b) : h.get b = none := by
  cases hg : h.get b with
  | none => rfl
  | some x => have := hS.top b x hg; omega

/-! ### In the text's order -/
theorem seqSim (hcall : CallSim P base call) {ops : Array Oper} {nt n0 k : Nat} {ro : Option Nat} {Q : EX → Env → H → Prop} {ι0 : Io} {h0 : H} {w0 : World} : ∀ (m k0 : Nat), k0 + m = ops.size → ∀ (ι : Io) (e : Env) (h : H) (a : Act) (w : World),
    SimA P base nt n0 ι e h a w → StepR ι0 h0 w0 ι h w → ((runSeq call ((ops.toList.drop k0).map (compOper P nt ops)) (e, h)).all fun s => Q .normal s.1 s.2) →
    wpOpsIn (FR ro) k P ops (Post P base nt n0 Q ι0 h0 w0) (List.range' k0 m) a w
  | 0, k0, hk, ι, e, h, a, w, hs, st, hr => by
    have : ops.toList.drop k0 = [] := List.drop_eq_nil_of_le (by simp; omega)
    rw [this] at hr
    exact ⟨.normal, e, h, ι, hr, trivial, hs, st⟩
  | m + 1, k0, hk, ι, e, h, a, w, hs, st, hr => by
    have hlt : k0 < ops.size := by omega
    have hd : ops.toList.drop k0 = ops[k0] :: ops.toList.drop (k0 + 1) := by rw [← Array.getElem_toList hlt]; exact List.drop_eq_getElem_cons (by simpa using hlt)
    rw [hd, List.map_cons] at hr
    have hr := (T.all_bind _ _).1 (show ((stepG call h.next (compOper P nt ops ops[k0]) (e, h)).bind fun r => runSeq call ((ops.toList.drop (k0 + 1)).map (compOper P nt ops)) r.1).all _ from hr)
    rw [List.range'_succ, wpOpsIn_cons]
    refine operSim hcall (Array.getElem?_eq_getElem hlt) hs (hs.s.none_top (Nat.le_refl _)) (K' := fun e' h' _ => (runSeq call ((ops.toList.drop (k0 + 1)).map (compOper P nt ops)) (e', h')).all fun s => Q .normal s.1 s.2) ?_ hr
    intro ι' e' h' a' w' fp hq hs' st'
    exact seqSim hcall m (k0 + 1) (by omega) ι' e' h' a' w' hs' (st.trans st') hq

theorem regionSim (hcall : CallSim P base call) {id : Nat} {ops : Array Oper} {nt n0 k : Nat} {ro : Option Nat} {Q : EX → Env → H → Prop} {ι : Io} {e : Env} {h : H} {a : Act} {w : World}
    (hs : SimA P base nt n0 ι e h a w) (hr : (runSeq call (ops.toList.map (compOper P nt ops)) (e, h)).all fun s => Q .normal s.1 s.2) :
    (Code.region id ops false).wpIn (FR ro) k P (Post P base nt n0 Q ι h w) a w := by
  refine wpIn_region ?_
  rw [List.range_eq_range']
  exact seqSim hcall ops.size 0 (by omega) ι e h a w hs (.refl _ _ _) hr

/-! ### What is before what -/
theorem fold_bits (acc : List Nat) (k : Nat) : ∀ (l : List Edge) (s0 : Nat), (l.foldl (fun s e => bif bindsAny e then s ||| 2 ^ e.on ||| acc.getD e.on 0 else s) s0).testBit k = true →
    s0.testBit k = true ∨ ∃ e ∈ l, bindsAny e = true ∧ (k = e.on ∨ (acc.getD e.on 0).testBit k = true)
  | [], _, h => .inl h
  | e :: l, s0, h => by
    rcases fold_bits acc k l _ h with h1 | ⟨e', he', h1⟩
    · cases hb : bindsAny e with
      | false => simp only [hb, cond_false] at h1; exact .inl h1
      | true =>
        simp only [hb, cond_true, Nat.testBit_or, Bool.or_eq_true, Nat.testBit_two_pow, decide_eq_true_eq] at h1
        rcases h1 with (h1 | h1) | h1
        · exact .inl h1
        · exact .inr ⟨e, by simp, hb, .inl h1.symm⟩
        · exact .inr ⟨e, by simp, hb, .inr h1⟩
    · exact .inr ⟨e', by simp [he'], h1⟩

theorem befores_spec : ∀ (l : List Oper) (i : Nat) (acc b : List Nat), befores l i acc = some b → acc.length = i →
    b.length = i + l.length ∧ (∀ k, k < i → b.getD k 0 = acc.getD k 0) ∧ ∀ m o, l[m]? = some o → (∀ e ∈ o.after, bindsAny e = true → e.on < i + m) ∧
      ∀ k, (b.getD (i + m) 0).testBit k = true → ∃ e ∈ o.after, bindsAny e = true ∧ (k = e.on ∨ (b.getD e.on 0).testBit k = true)
  | [], i, acc, b, h, hl => by
    cases h
    exact ⟨by simp [hl], fun _ _ => rfl, fun m o hm => by simp at hm⟩
  | o :: l, i, acc, b, h, hl => by
    simp only [befores] at h
    split at h
    · rename_i hall
      obtain ⟨h1, h2, h3⟩ := befores_spec l (i + 1) _ b h (by simp [hl])
      have hon : ∀ e ∈ o.after, bindsAny e = true → e.on < i := by
        intro e he hb
        have := Array.all_eq_true_iff_forall_mem.1 hall e he
        simp only [hb, Bool.not_true, Bool.false_or] at this
        simpa [Nat.blt_eq] using this
      refine ⟨by simp [h1]; omega, fun k hk => ?_, fun m o' hm => ?_⟩
      · rw [h2 k (by omega)]
        simp [List.getD_eq_getElem?_getD, List.getElem?_append, hl, hk]
      · cases m with
        | zero =>
          simp at hm
          subst hm
          refine ⟨fun e he hb => by have := hon e he hb; omega, fun k hk => ?_⟩
          have hbi : b.getD i 0 = o.after.foldl (fun s e => bif bindsAny e then s ||| 2 ^ e.on ||| acc.getD e.on 0 else s) 0 := by
            rw [h2 i (by omega)]
            simp [List.getD_eq_getElem?_getD, hl]
          rw [Nat.add_zero, hbi, ← Array.foldl_toList] at hk
          rcases fold_bits acc k o.after.toList 0 hk with h0 | ⟨e, he, hb, h0⟩
          · simp at h0
          · have he' : e ∈ o.after := by simpa using he
            refine ⟨e, he', hb, ?_⟩
            rcases h0 with h0 | h0
            · exact .inl h0
            · right
              have := hon e he' hb
              rw [h2 e.on (by omega)]
              simpa [List.getD_eq_getElem?_getD, List.getElem?_append, hl, this] using h0
        | succ m =>
          simp at hm
          obtain ⟨h4, h5⟩ := h3 m o' hm
          refine ⟨fun e he hb => by have := h4 e he hb; omega, fun k hk => ?_⟩
          rw [show i + (m + 1) = i + 1 + m by omega] at hk
          exact h5 k hk
    · cases h

/-! ### With a drawn order -/
def todoL (ops : Array Oper) (listed : Array Bool) : List Nat := (List.range ops.size).filter fun i => !listed.getD i true
theorem mem_todo {ops : Array Oper} {listed : Array Bool} {i : Nat} : i ∈ todoL ops listed ↔ i < ops.size ∧ listed.getD i true = false := by
  simp [todoL, List.mem_filter]
theorem todo_pair (ops : Array Oper) (listed : Array Bool) : (todoL ops listed).Pairwise (· < ·) := List.pairwise_lt_range.filter _

structure Regd (P : Program) (nt : Nat) (ops : Array Oper) (uno : List (Nat × Nat)) (b : List Nat) : Prop where
  on : ∀ (i : Nat) (o : Oper), ops[i]? = some o → ∀ e ∈ o.after, bindsAny e = true → e.on < i
  up : ∀ (i : Nat) (o : Oper), ops[i]? = some o → ∀ k, isBefore b k i = true → ∃ e ∈ o.after, bindsAny e = true ∧ (k = e.on ∨ isBefore b k e.on = true)
  free : ∀ j i, j < i → i < ops.size → isBefore b j i = false → Free (ops.toList.map (compOper P nt ops)) uno j i

theorem comp_draw {nt : Nat} {ops : Array Oper} {l : List AOper} {uno : List (Nat × Nat)} (h : compDraw P nt ops = .draw l uno) : l = ops.toList.map (compOper P nt ops) ∧ ∃ b, Regd P nt ops uno b := by
  unfold compDraw at h
  simp only at h
  split at h
  · cases h
  · rename_i b hb
    rw [cond_eq_ite] at h
    split at h
    · rename_i hall
      cases h
      refine ⟨rfl, b, ?_⟩
      obtain ⟨h1, _, h3⟩ := befores_spec _ 0 [] b hb rfl
      have hget : ∀ (i : Nat) (o : Oper), ops[i]? = some o → ops.toList[i]? = some o := fun i o h => by simpa using h
      refine ⟨fun i o ho e he hb => ?_, fun i o ho k hk => ?_, fun j i hji hi hnb => ⟨hji, fun o o' ho ho' => ?_⟩⟩
      · have := (h3 i o (hget i o ho)).1 e he hb; omega
      · have := (h3 i o (hget i o ho)).2 k
        rw [Nat.zero_add] at this
        exact this hk
      · have hm : (j, i) ∈ pairsU b (ops.toList.map (compOper P nt ops)).length := by
          unfold pairsU
          refine List.mem_flatMap.2 ⟨i, by simpa using hi, List.mem_map.2 ⟨j, List.mem_filter.2 ⟨by simpa using hji, by simp [hnb]⟩, rfl⟩⟩
        have hok := List.all_eq_true.1 hall _ hm
        unfold pairOk at hok
        simp only [ho, ho'] at hok
        refine ⟨apart_spec hok, ?_⟩
        cases hl : pairLoud (ops.toList.map (compOper P nt ops)) (j, i) with
        | true => exact .inl (List.mem_filter.2 ⟨hm, hl⟩)
        | false =>
          right
          unfold pairLoud at hl
          simp only [ho, ho'] at hl
          unfold Still
          simpa only [Bool.not_eq_false'] using hl
    · cases h

theorem filter_ne_of {l : List Nat} (hn : l.Pairwise (· < ·)) {i : Nat} (hi : i ∈ l) : ∃ A B, l = A ++ i :: B ∧ (∀ j ∈ A, j < i) ∧ l.filter (fun j => !(j == i)) = A ++ B := by
  obtain ⟨A, B, rfl⟩ := List.append_of_mem hi
  have h1 := List.pairwise_append.1 hn
  have hA : ∀ j ∈ A, j < i := fun j hj => h1.2.2 j hj i (by simp)
  have hB : ∀ j ∈ B, i < j := fun j hj => (List.pairwise_cons.1 h1.2.1).1 j hj
  refine ⟨A, B, rfl, hA, ?_⟩
  rw [List.filter_append, List.filter_cons_of_neg (by simp)]
  congr 1
  · exact List.filter_eq_self.2 fun j hj => by have := hA j hj; simp; omega
  · exact List.filter_eq_self.2 fun j hj => by have := hB j hj; simp; omega

theorem todo_set {ops : Array Oper} {listed : Array Bool} (hsz : listed.size = ops.size) (i : Nat) : todoL ops (listed.setIfInBounds i true) = (todoL ops listed).filter fun j => !(j == i) := by
  unfold todoL
  rw [List.filter_filter]
  refine List.filter_congr fun j hj => ?_
  have hj' : j < listed.size := by rw [hsz]; simpa using hj
  by_cases e : i = j
  · subst e
    rw [Array.getD_eq_getD_getElem?, Array.getElem?_setIfInBounds, if_pos rfl, if_pos hj']
    simp
  · rw [getD_set_ne true e]
    have : (j == i) = false := by simp; exact fun h => e h.symm
    simp [this]

theorem getD_bool {l : Array Bool} {i : Nat} (h : i < l.size) (d d' : Bool) : l.getD i d = l.getD i d' := by
  rw [Array.getD_eq_getD_getElem?, Array.getD_eq_getD_getElem?, Array.getElem?_eq_getElem h]; rfl

theorem anySim (hcall : CallSim P base call) (hi : CInv call) (hfr : CFr call) {ops : Array Oper} {uno : List (Nat × Nat)} {b : List Nat} {nt n0 b0 k : Nat} {ro : Option Nat} (hg : Regd P nt ops uno b) {Q : EX → Env → H → Prop} {ι0 : Io} {h0 : H} {w0 : World} :
    ∀ (fuel : Nat) (listed : Array Bool) (ι : Io) (e : Env) (h : H) (fs : PT FP) (a : Act) (w : World), listed.size = ops.size → (todoL ops listed).length = fuel →
      (∀ i, i < ops.size → listed.getD i true = true → ∀ j, isBefore b j i = true → listed.getD j false = true) →
      Todo b0 (todoL ops listed) (e, h) fs → SimA P base nt n0 ι e h a w → StepR ι0 h0 w0 ι h w →
      ((runFP call b0 (ops.toList.map (compOper P nt ops)) uno (todoL ops listed) (e, h) fs).all fun s => Q .normal s.1 s.2) →
      wpAnyIn (FR ro) k P .any ops (Post P base nt n0 Q ι0 h0 w0) fuel listed a w := by
  have hready0 : ∀ (listed : Array Bool), listed.size = ops.size → Region.ready .any ops listed = [] → todoL ops listed = [] := by
    intro listed hsz hr
    cases hL : todoL ops listed with
    | nil => rfl
    | cons m L =>
      exfalso
      have hm := mem_todo.1 (show m ∈ todoL ops listed by rw [hL]; simp)
      have hmin : ∀ j, j < m → listed.getD j true = true := by
        intro j hj
        cases hl : listed.getD j true with
        | true => rfl
        | false =>
          have hjm : j ∈ todoL ops listed := mem_todo.2 ⟨by omega, hl⟩
          have hp := todo_pair ops listed
          rw [hL] at hjm hp
          rcases List.mem_cons.1 hjm with e | e
          · omega
          · have := (List.pairwise_cons.1 hp).1 j e; omega
      have : m ∈ Region.ready .any ops listed := mem_ready.2 ⟨hm.2, ops[m], Array.getElem?_eq_getElem hm.1, fun e he hb => by
        have hlt := hg.on m _ (Array.getElem?_eq_getElem hm.1) e he hb
        rw [getD_bool (by rw [hsz]; omega) false true]
        exact hmin _ hlt⟩
      rw [hr] at this
      cases this
  intro fuel
  induction fuel with
  | zero =>
    intro listed ι e h fs a w hsz hlen _ _ hs st hr
    have hL : todoL ops listed = [] := List.eq_nil_of_length_eq_zero hlen
    refine ⟨?_, ?_⟩
    · rw [List.eq_nil_iff_forall_not_mem]
      intro i him
      obtain ⟨h0, o, ho, _⟩ := mem_ready.1 him
      have : i ∈ todoL ops listed := mem_todo.2 ⟨(Array.getElem?_eq_some_iff.1 ho).1, h0⟩
      rw [hL] at this; cases this
    · rw [hL] at hr
      exact ⟨.normal, e, h, ι, hr, trivial, hs, st⟩
  | succ fuel ih =>
    intro listed ι e h fs a w hsz hlen hcl htd hs st hr
    refine ⟨fun h0 => ?_, fun i him => ?_⟩
    · have := hready0 listed hsz h0
      rw [this] at hlen; cases hlen
    · obtain ⟨hun, o, ho, hedge⟩ := mem_ready.1 him
      have hilt : i < ops.size := (Array.getElem?_eq_some_iff.1 ho).1
      have hmem : i ∈ todoL ops listed := mem_todo.2 ⟨hilt, hun⟩
      -- whatever is before it is listed
      have hbef : ∀ j, isBefore b j i = true → listed.getD j false = true := by
        intro j hj
        obtain ⟨ed, he, hb, h1⟩ := hg.up i o ho j hj
        have hl := hedge ed he hb
        rcases h1 with rfl | h1
        · exact hl
        · have hlt := hg.on i o ho ed he hb
          exact hcl ed.on (by omega) (by rw [getD_bool (by rw [hsz]; omega) true false]; exact hl) j h1
      obtain ⟨A, B, hAB, hA, hfil⟩ := filter_ne_of (todo_pair ops listed) hmem
      have hset : todoL ops (listed.setIfInBounds i true) = A ++ B := by rw [todo_set hsz, hfil]
      have hfree : ∀ j ∈ A, Free (ops.toList.map (compOper P nt ops)) uno j i := by
        intro j hj
        have hjt := mem_todo.1 (show j ∈ todoL ops listed by rw [hAB]; simp [hj])
        refine hg.free j i (hA j hj) hilt ?_
        cases hbj : isBefore b j i with
        | false => rfl
        | true =>
          have := hbef j hbj
          rw [getD_bool (by rw [hsz]; exact hjt.1) false true, hjt.2] at this
          cases this
      have hnd : (A ++ i :: B).Nodup := by
        rw [← hAB]
        exact (todo_pair ops listed).imp fun h => Nat.ne_of_lt h
      rw [hAB] at hr htd
      have h1 := take_first hi hfr A (e, h) fs hfree hnd htd hr
      have h2 : (step1 call b0 (ops.toList.map (compOper P nt ops)) uno i (e, h) fs).lv fun p => Todo b0 (A ++ B) p.1 p.2 :=
        step1_todo hi (fun j hj => htd j (by simp at hj ⊢; rcases hj with hj | hj <;> simp [hj])) (fun j hj => by
          rintro rfl
          have := List.nodup_append.1 hnd
          simp at hj
          rcases hj with hj | hj
          · exact this.2.2 j hj j (by simp) rfl
          · exact (List.nodup_cons.1 this.2.1).1 hj)
      obtain ⟨o', ho', h3⟩ := step1_all.1 (T.all_lv h1 h2)
      have ho'' : o' = compOper P nt ops o := by
        rw [List.getElem?_map, show ops.toList[i]? = some o by simpa using ho] at ho'
        cases ho'; rfl
      subst ho''
      refine operSim hcall ho hs (htd i (by simp)).1.1 (K' := fun e' h' fp => okWith uno fs i fp = true ∧ (((runFP call b0 (ops.toList.map (compOper P nt ops)) uno (A ++ B) (e', h') (fs.set i fp)).all fun s => Q .normal s.1 s.2) ∧ Todo b0 (A ++ B) (e', h') (fs.set i fp))) ?_ h3
      rintro ι' e' h' a' w' fp ⟨_, hrun, htd'⟩ hs' st'
      refine ih (listed.setIfInBounds i true) ι' e' h' (fs.set i fp) a' w' (by simp [hsz]) ?_ ?_ (by rw [hset]; exact htd') hs' (st.trans st') (by rw [hset]; exact hrun)
      · rw [hset]
        rw [hAB] at hlen
        simp at hlen ⊢
        omega
      · intro m hm hlm j hj
        by_cases e1 : m = i
        · subst e1
          exact getD_set_true (hbef j hj)
        · rw [getD_set_ne true (Ne.symm e1)] at hlm
          exact getD_set_true (hcl m hm hlm j hj)

theorem drawSim (hm : P.follows .mixedOrders = true) (hcall : CallSim P base call) (hi : CInv call) (hfr : CFr call) {id : Nat} {ops : Array Oper} {l : List AOper} {uno : List (Nat × Nat)} {nt n0 k : Nat} {ro : Option Nat} {Q : EX → Env → H → Prop} {ι : Io} {e : Env} {h : H} {a : Act} {w : World}
    (hc : compDraw P nt ops = .draw l uno) (hs : SimA P base nt n0 ι e h a w) (hr : (runDraw call l uno (e, h)).all fun s => Q .normal s.1 s.2) :
    (Code.region id ops true).wpIn (FR ro) k P (Post P base nt n0 Q ι h w) a w := by
  obtain ⟨rfl, b, hg⟩ := comp_draw hc
  refine wpIn_region_any hm ?_
  have hL : todoL ops (Array.replicate ops.size false) = List.range ops.size := by
    unfold todoL
    refine List.filter_eq_self.2 fun i hi => ?_
    have : i < ops.size := by simpa using hi
    simp [Array.getElem?_replicate, this]
  have hS' : RelS P base ι { h with next := h.next + (ops.toList.map (compOper P nt ops)).length } { w with drawn := w.drawn + 1 } := hs.s.same (fun _ => rfl) (Nat.le_add_right _ _) rfl
  have st : StepR ι h w ι { h with next := h.next + (ops.toList.map (compOper P nt ops)).length } { w with drawn := w.drawn + 1 } := StepR.same (fun _ => rfl) rfl
  refine anySim hcall hi hfr hg (b0 := h.next) ops.size _ ι e _ .nil a _ (by simp) (by rw [hL]; simp) ?_ ?_ ⟨hS', hs.b, hs.e, hs.n, hs.m.step st, hs.nb⟩ st ?_
  · intro i hi hl
    simp [Array.getElem?_replicate, hi] at hl
  · intro j hj
    rw [hL] at hj
    have hj' : j < ops.size := by simpa using hj
    refine ⟨⟨hs.s.none_top (Nat.le_add_right _ _), ?_⟩, rfl⟩
    show h.next + j < h.next + (ops.toList.map (compOper P nt ops)).length
    simp; exact hj'
  · rw [hL]
    have := hr
    unfold runDraw at this
    simpa using this
end Go.Ax
