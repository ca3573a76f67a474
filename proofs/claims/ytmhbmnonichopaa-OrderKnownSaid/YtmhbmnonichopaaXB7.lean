/-
  Append, copy and clear.
-/
import Derived.Test.YtmhbmnonichopaaXB6
namespace Go.Ax

variable {P : Program} {base : Nat}

/-- reading the first cells of a slice -/
theorem firstCells_rel {ι : Io} {h : H} {w : World} (hS : RelS P base ι h w) {b o n c es sz m : Nat} {ex : Bool} {v : Value} {l : List AV} {own : Bool} (hv : RelV ι (.slc (some (b, o)) n c ex es) v) (hb : h.get b = some (.cells l own))
    (hm : m ≤ n) (hfit : o + m * sz ≤ l.length) : ∃ cs : List Value, (∀ w' : World, w'.heap = w.heap → (Builtin.firstCells sz m v).run P w' = .ok cs.toArray w') ∧ RelC ι ((l.drop o).take (m * sz)) cs ∧ cs.length = m * sz := by
  obtain ⟨p, arr, ty, fz, hp, hlt, hg, hle, hc⟩ := hS.row hb
  cases hv with
  | slc h1 h2 h3 h4 h5 =>
    rename_i C A q
    rw [hp] at h1; cases h1
    rcases h5 with h5 | ⟨rfl, _⟩
    · have : m = 0 := by omega
      subst this
      refine ⟨[], fun w' _ => ?_, by simp only [Nat.zero_mul, List.take_zero]; exact ⟨.nil, fun a ha => by cases ha⟩, by simp⟩
      have := run_loadCells_list (P := P) w' A [] (by simp)
      simpa [Builtin.firstCells] using this
    · have h2 := (hc.drop o).take (m * sz)
      rw [window_sub _ _ _ _ _ hfit] at h2
      have hlen : ((arr.toList.drop (p.O + o)).take (m * sz)).length = m * sz := by simp; omega
      refine ⟨(arr.toList.drop (p.O + o)).take (m * sz), fun w' hw => ?_, h2, hlen⟩
      have hl := run_loadCells_list (P := P) w' ⟨p.B, p.O + o, none⟩ ((arr.toList.drop (p.O + o)).take (m * sz)) (by
        intro j v hj
        rw [getElem?_window] at hj
        split at hj
        · rw [addr_add, cell_of (by rw [hw]; exact hg), ← Array.getElem?_toList]; exact hj
        · cases hj)
      rw [hlen] at hl
      simp only [Builtin.firstCells]
      exact hl

theorem rel_slc_len {ι : Io} {p : Option (Nat × Nat)} {n c es : Nat} {ex : Bool} {v : Value} (h : RelV ι (.slc p n c ex es) v) : ∃ p' C, v = .slice p' n C ∧ n ≤ C := by
  cases h with
  | slcN => exact ⟨_, _, rfl, Nat.le_refl _⟩
  | slc h1 h2 h3 h4 h5 => exact ⟨_, _, rfl, by omega⟩

/-- what an append comes to, in the machine's words -/
theorem run_app {t tx ty el elx : TypeId} {i : TypeInfo} {zv : Value} {args : Array TypeId} (h0 : args[0]? = some t) (h1 : args[1]? = some tx) (ht : P.underlying t = some (.slice el)) (hx : P.underlying tx = some (.slice elx)) (hi : P.info? el = some i) (hz : i.zero = some zv) (hby : 0 < i.bytes)
    (bs : Option Addr) (sl sc : Nat) (x : Value) (n : Nat) (news olds : List Value) (w : World) (hn : ∃ A C, x = .slice A n C)
    (hnew : ∀ w' : World, w'.heap = w.heap → (Builtin.firstCells i.size n x).run P w' = .ok news.toArray w') (hold : sc < sl + n → ∀ w' : World, w'.heap = w.heap → (Builtin.firstCells i.size sl (.slice bs sl sc)).run P w' = .ok olds.toArray w')
    (hroom : (3 * (sl + n) + 2000) * i.bytes ≤ 70368744177664) :
    (Builtin.append_ args ty #[.slice bs sl sc, x]).run P w =
      if sl + n ≤ sc then ((match bs with | some a => storeCells (a.add (sl * i.size)) news | none => pure ()).run P w).andThen fun _ w' => .ok (.slice bs (sl + n) sc) w'
      else .ok (.slice (some ⟨w.heap.size, 0, none⟩) (sl + n) (grownCap w (sl + n) sc el))
        (w.drew.alloc (.cells (olds.toArray ++ news.toArray ++ Builtin.zeroCells zv.cells (grownCap w (sl + n) sc el - (sl + n))) el)) := by
  obtain ⟨A, C, rfl⟩ := hn
  have hbd : sl + n ≤ 70368744177664 := by
    have : (3 * (sl + n) + 2000) * 1 ≤ (3 * (sl + n) + 2000) * i.bytes := Nat.mul_le_mul_left _ hby
    omega
  unfold Builtin.append_
  simp only [h0, h1, List.getElem?_toArray, List.getElem?_cons_zero, List.getElem?_cons_succ, Sem.run_bind, run_underlying ht, run_underlying hx, Result.andThen_ok, sizeOf, typeInfo, run_program, hi, Sem.run_pure, Bool.false_eq_true, if_false, Builtin.lenOf, Sem.run_ite, Bool.not_false, if_true]
  by_cases hle : sl + n ≤ sc
  · rw [if_pos hle, if_pos hle]
    rw [hnew w rfl]
    simp only [Result.andThen_ok]
    cases bs with
    | none => simp
    | some a => simp
  · rw [if_neg hle, if_neg hle]
    have hlt : sc < sl + n := by omega
    have e1 : ¬ (((sl + n : Nat) : Int) > IntKind.i64.max ∧ (False ∨ i.bytes = 0)) := by rintro ⟨_, h | h⟩ <;> omega
    have hnx := nextslicecap_le hlt
    have e2 : ¬ (Builtin.nextslicecap (sl + n) sc * i.bytes > 2 ^ 48) := by
      have : Builtin.nextslicecap (sl + n) sc * i.bytes ≤ (3 * (sl + n) + 2000) * i.bytes := Nat.mul_le_mul_right _ (by omega)
      have e : (2 : Nat) ^ 48 = 281474976710656 := rfl
      omega
    have ho := hold hlt
    simp only [e1, e2, if_false, Sem.run_bind, Result.andThen_ok, Sem.run_pure, run_choose_drew, Question.forced, Bool.false_eq_true, run_askRoom, ho w.drew rfl, hnew w.drew rfl, zeroValue, typeInfo, run_program, hi, hz]
    simp only [newRow, Sem.run_bind, run_newObj_alloc, Result.andThen_ok, Sem.run_pure]
    rfl

/-- what append makes anew -/
theorem RelS.grown {ι : Io} {h : H} {w : World} (hS : RelS P base ι h w) (hbw : base ≤ w.heap.size) {aid : Nat} (hn : h.get aid = none) {el : TypeId} {z : List AV} {zv : Value} {size need cap : Nat} (hz : ∀ ι, RelC ι z zv.cells.toList) (hzs : zv.cells.size = size) (hcap : need ≤ cap)
    {l : List AV} {L : List Value} (hl : RelC ι l L) (hlen : L.length = need * size) :
    ∃ ι', RelV ι' (.slc (some (aid, 0)) need need false size) (.slice (some ⟨w.heap.size, 0, none⟩) need cap) ∧
      RelS P base ι' (h.new aid (.cells l true)) (w.drew.alloc (.cells (L.toArray ++ Builtin.zeroCells zv.cells (cap - need)) el)) ∧
      StepR ι h w ι' (h.new aid (.cells l true)) (w.drew.alloc (.cells (L.toArray ++ Builtin.zeroCells zv.cells (cap - need)) el)) := by
  have hS1 : RelS P base ι h w.drew := hS.same (fun _ => rfl) (Nat.le_refl _) rfl
  have hsz : (L.toArray ++ Builtin.zeroCells zv.cells (cap - need)).size = cap * size := by
    rw [Array.size_append, size_zeroCells, hzs, List.size_toArray, hlen, ← Nat.add_mul]
    congr 1; omega
  refine ⟨ι.put aid ⟨w.heap.size, 0, cap * size⟩, ?_, ?_⟩
  · refine .slc (Io.put_same _ _ _) (Nat.le_refl _) hcap (fun h => by cases h) (.inr ⟨rfl, .inr ?_⟩)
    show 0 + 0 + cap * size ≤ cap * size
    omega
  · have hll : l.length = need * size := by rw [hl.1.1, hlen]
    have hB : RelB P (ι.put aid ⟨w.heap.size, 0, cap * size⟩) base (w.drew.alloc (.cells (L.toArray ++ Builtin.zeroCells zv.cells (cap - need)) el)).heap ⟨w.heap.size, 0, cap * size⟩ (.cells l true) := by
      refine ⟨hbw, _, el, heap_alloc_at w.drew _, hsz, ?_, ?_⟩
      · show 0 + l.length ≤ cap * size
        rw [hll, Nat.zero_add]; exact Nat.mul_le_mul_right _ hcap
      · have e : (L.toArray ++ Builtin.zeroCells zv.cells (cap - need)).toList = L ++ (Builtin.zeroCells zv.cells (cap - need)).toList := by simp
        rw [e, List.drop_zero, List.take_append_of_le_length (by rw [hl.1.1]; exact Nat.le_refl _), List.take_of_length_le (by rw [hl.1.1]; exact Nat.le_refl _)]
        exact hl.ext (Ext.put _ (hS.unused aid hn))
    have := hS1.fresh (show base ≤ w.drew.heap.size from hbw) hn (.cells (L.toArray ++ Builtin.zeroCells zv.cells (cap - need)) el) ⟨w.heap.size, 0, cap * size⟩ rfl hB
    exact ⟨this.1, ⟨this.2.ext, this.2.size, this.2.fr, this.2.os⟩⟩

/-- an append in place: the old block is given up, the new one lies where it lay -/
theorem RelS.inPlace {ι : Io} {h : H} {w : World} (hS : RelS P base ι h w) {sb so : Nat} {l : List AV} (hb : h.get sb = some (.cells l true)) {p : Pl} (hp : ι sb = some p) {aid : Nat} (hn : h.get aid = none) {n : Nat} (hso : so + n ≤ l.length)
    {news : List AV} {vs : List Value} (hc : RelC ι news vs) (hroom : p.O + so + n + vs.length ≤ p.S) :
    ∃ w' ι', (storeCells ⟨p.B, p.O + so + n, none⟩ vs).run P w = .ok () w' ∧ ι' aid = some ⟨p.B, p.O + so, p.S⟩ ∧ RelS P base ι' ((h.put sb .dead).new aid (.cells ((l.drop so).take n ++ news) true)) w' ∧
      StepR ι h w ι' ((h.put sb .dead).new aid (.cells ((l.drop so).take n ++ news) true)) w' := by
  obtain ⟨q, hq, hlt, hr⟩ := hS.blk sb _ hb
  rw [hp] at hq; cases hq
  obtain ⟨hbase, arr, ty, hg, hsz, hfit, hrel⟩ := hr
  have hst := run_storeCells_at P p.B (p.O + so + n) ty vs 0 arr w hg (by omega) hc.one
  obtain ⟨hS1, _⟩ := hS.kill hb
  have hne : aid ≠ sb := by intro e; subst e; rw [hn] at hb; cases hb
  have hn1 : (h.put sb .dead).get aid = none := by rw [H.get_put, if_neg hne]; exact hn
  have hι := hS.unused aid hn
  have hll : ((l.drop so).take n ++ news).length = n + vs.length := by
    rw [List.length_append, List.length_take, List.length_drop, hc.1.1]; omega
  have hfree : ∀ b y q, (h.put sb .dead).get b = some y → y.mine = true → ι b = some q → q.B ≠ p.B := by
    intro b y q hb' hy hq e
    rw [H.get_put] at hb'
    split at hb'
    · cases hb'; cases hy
    · rename_i hbs
      exact hbs (hS.inj b sb y _ q p hb' hb hy rfl hq hp e)
  refine ⟨_, ι.put aid ⟨p.B, p.O + so, p.S⟩, hst, Io.put_same _ _ _, hS1.newAt hn1 ⟨p.B, p.O + so, p.S⟩ (by simp) (by simpa using hlt) (fun k _ hk => setRow_other _ _ _ _ hk) hfree hbase ?_, ?_⟩
  · refine ⟨hbase, _, ty, setRow_heap w p.B arr _ ty (0, 0) hg, ?_, ?_, ?_⟩
    · simp; omega
    · show p.O + so + _ ≤ p.S
      rw [hll]; omega
    · rw [hll]
      simp only [Nat.add_zero]
      have e : ((arr.toList.take (p.O + so + n) ++ vs ++ arr.toList.drop (p.O + so + n + vs.length)).drop (p.O + so)).take (n + vs.length) = ((arr.toList.drop (p.O + so)).take n) ++ vs := by
        apply List.ext_getElem?
        intro i
        rw [getElem?_window]
        have e1 : min (p.O + so + n) arr.toList.length = p.O + so + n := by simp; omega
        have e2 : (List.take n (List.drop (p.O + so) arr.toList)).length = n := by simp; omega
        rw [List.getElem?_append (l₁ := List.take n (List.drop (p.O + so) arr.toList)), e2]
        simp only [List.getElem?_append, List.length_append, List.length_take, e1, List.getElem?_take, List.getElem?_drop]
        by_cases a : i < n
        · rw [if_pos (by omega), if_pos (by omega), if_pos (by omega), if_pos a, if_pos a, if_pos (by omega)]
        · rw [if_neg a]
          by_cases b : i < n + vs.length
          · rw [if_pos b, if_pos (by omega), if_neg (by omega)]
            congr 1; omega
          · rw [if_neg b, List.getElem?_eq_none (by omega)]
      rw [e]
      have h2 := (hrel.drop so).take n
      rw [window_sub _ _ _ _ _ hso] at h2
      exact (h2.append hc).ext (Ext.put _ hι)
  · refine ⟨Ext.put _ hι, by simp, fun B hB hi => ⟨setRow_other _ _ _ _ ?_, ?_⟩, rfl, rfl, rfl⟩
    · intro e; exact hi ⟨sb, _, p, hb, rfl, hp, e.symm⟩
    · rintro ⟨k, y, q, hk, hy, hq, rfl⟩
      rw [H.get_new] at hk
      split at hk
      · rename_i e; subst e
        rw [Io.put_same] at hq; cases hq
        exact hi ⟨sb, _, p, hb, rfl, hp, rfl⟩
      · rename_i e
        rw [Io.put_ne ι _ e] at hq
        rw [H.get_put] at hk
        split at hk
        · cases hk; cases hy
        · exact hi ⟨k, y, q, hk, hy, hq, rfl⟩

theorem Loc.run_ite {c : Prop} [Decidable c] {x y : Loc} {aid : Nat} {h : H} {r : AV × H × FP} (hr : (if c then x else y).run aid h = some r) : (c ∧ x.run aid h = some r) ∨ (¬ c ∧ y.run aid h = some r) := by
  split at hr
  · exact .inl ⟨by assumption, hr⟩
  · exact .inr ⟨by assumption, hr⟩

theorem sim_app {o : Oper} (c : Call) (t tx el elx : TypeId) (i : TypeInfo) (z : List AV) (s x : Operand) (ho : o.op = .call c) (hb : c.callee = .builtin .append) (ha : c.args.toList = [s, x]) (h0 : c.argTypes[0]? = some t) (h1 : c.argTypes[1]? = some tx)
    (ht : P.underlying t = some (.slice el)) (hx : P.underlying tx = some (.slice elx)) (hi : P.info? el = some i) (hz : zeroL P el = some z) (hc : 0 < i.size ∧ z.length = i.size ∧ 0 < i.bytes) : OpSim P base o (.app i.size i.bytes (ao s) (ao x)) := by
  intro ι e h w a aid v h' fp hS hbw hE hn hr
  have hs' := ao_rel hE s
  have hx' := ao_rel hE x
  obtain ⟨zv, _, hzr, i', hi', hzv⟩ := zeroL_rel hz
  rw [hi] at hi'; cases hi'
  have hzs : zv.cells.size = i.size := by have := (hzr ι).1.1; simp at this; omega
  have hrun : ∀ W n W', (Builtin.append_ c.argTypes o.type #[a.eval s, a.eval x]).run P W = .ok n W' → (execOp a.eval o).run P W = .ok (.value n) W' := by
    intro W n W' hW
    obtain ⟨cs, he⟩ := run_builtin ho hb a.eval
    rw [he, args_two ha]
    simp [builtin, hW]
  simp only [opLoc] at hr
  split at hr
  · rename_i sa sl sc sx es xa xl xc xx xes hps hpx
    rw [hps] at hs'
    rw [hpx] at hx'
    rcases Loc.run_ite hr with ⟨hroom, hr1⟩ | ⟨_, hr1⟩
    · simp only [room] at hroom
      rcases Loc.run_ite hr1 with ⟨hxl, hr2⟩ | ⟨hxl, hr2⟩
      · -- nothing comes
        subst hxl
        rw [Loc.run_val] at hr2
        simp only [Option.map_some, Option.some.injEq, Prod.mk.injEq] at hr2
        obtain ⟨rfl, rfl, _⟩ := hr2
        obtain ⟨A, C, hsv, hle⟩ := rel_slc_len hs'
        obtain ⟨A', C', hxv, _⟩ := rel_slc_len hx'
        have hnew : ∀ w' : World, w'.heap = w.heap → (Builtin.firstCells i.size 0 (a.eval x)).run P w' = .ok ([] : List Value).toArray w' := by
          intro w' _
          rw [hxv]
          cases A' with
          | none => simp [Builtin.firstCells]
          | some A' => have := run_loadCells_list (P := P) w' A' [] (by simp); simpa [Builtin.firstCells] using this
        have := run_app (P := P) (ty := o.type) h0 h1 ht hx hi hzv hc.2.2 A sl C (a.eval x) 0 [] [] w ⟨_, _, hxv⟩ hnew (by omega) (by omega)
        rw [if_pos (by omega)] at this
        have hfin : (Builtin.append_ c.argTypes o.type #[a.eval s, a.eval x]).run P w = .ok (a.eval s) w := by
          rw [hsv, this]
          cases A <;> simp [storeCells]
        exact ⟨.value (a.eval s), a.eval s, w, ι, hrun _ _ _ hfin, .inl rfl, hs', hS, .refl _ _ _⟩
      · split at hr2
        · -- the first elements
          rename_i xb xo
          rcases Loc.run_ite hr2 with ⟨hsl, hr3⟩ | ⟨_, hr3⟩
          · subst hsl
            obtain ⟨bs, v0, ups, nw, hg, hf, hcase⟩ := Loc.run_inv hr3
            obtain ⟨blk, hbx, rfl⟩ := getAll_one hg
            simp only at hf
            split at hf
            · rename_i l own heq
              simp only [List.cons.injEq, and_true] at heq; subst heq
              split at hf
              · rename_i hfit
                simp only [Option.some.injEq, Prod.mk.injEq] at hf
                obtain ⟨rfl, rfl, rfl⟩ := hf
                rcases hcase with ⟨hx', _⟩ | ⟨r, hx'', rfl, rfl⟩
                · cases hx'
                · simp only [Option.some.injEq] at hx''; subst hx''
                  obtain ⟨cs, hcs, hrel, hlen⟩ := firstCells_rel hS hx' hbx (Nat.le_refl xl) hfit
                  obtain ⟨A', C', hxv, _⟩ := rel_slc_len hx'
                  have hsv : a.eval s = .slice none 0 0 := by generalize a.eval s = X at hs' ⊢; cases hs'; rfl
                  have := run_app (P := P) (ty := o.type) h0 h1 ht hx hi hzv hc.2.2 none 0 0 (a.eval x) xl cs [] w ⟨_, _, hxv⟩ hcs (by intro _ w' _; simp [Builtin.firstCells]) (by omega)
                  rw [if_neg (by omega)] at this
                  have hcap : xl ≤ grownCap w (0 + xl) 0 el := by simp [grownCap, Question.cut]
                  obtain ⟨ι', g1, g2, g3⟩ := hS.grown hbw hn (el := el) hzr hzs hcap hrel hlen
                  refine ⟨_, _, _, ι', hrun _ _ _ (by rw [hsv]; exact this), .inl rfl, ?_, ?_, ?_⟩
                  · simpa [atNew] using g1
                  · simpa [H.puts] using g2
                  · simpa [H.puts] using g3
              · cases hf
            · cases hf
          · rw [Loc.run_no] at hr3; cases hr3
        · rename_i sb so xb xo
          obtain ⟨bs, v0, ups, nw, hg, hf, hcase⟩ := Loc.run_inv hr2
          obtain ⟨blk, blk', hbs, hbx, rfl⟩ := getAll_two hg
          simp only at hf
          split at hf
          · rename_i l own l' own' heq
            simp only [List.cons.injEq, and_true] at heq; obtain ⟨rfl, rfl⟩ := heq
            split at hf
            · rename_i hfit
              obtain ⟨hf1, hf2, hf3⟩ := hfit
              simp only [Option.some.injEq, Prod.mk.injEq] at hf
              obtain ⟨rfl, rfl, rfl⟩ := hf
              rcases hcase with ⟨hx', _⟩ | ⟨r, hx'', rfl, rfl⟩
              · cases hx'
              · simp only [Option.some.injEq] at hx''; subst hx''
                obtain ⟨cs, hcs, hrel, hlen⟩ := firstCells_rel hS hx' hbx (Nat.le_refl xl) hf2
                obtain ⟨ds, hds, hreld, hlend⟩ := firstCells_rel hS hs' hbs (Nat.le_refl sl) hf1
                obtain ⟨A', C', hxv, _⟩ := rel_slc_len hx'
                generalize hsv : a.eval s = S' at hs' hds
                cases hs' with
                | slc g1 g2 g3 g4 g5 =>
                  rename_i C A p
                  have := run_app (P := P) (ty := o.type) h0 h1 ht hx hi hzv hc.2.2 (some A) sl C (a.eval x) xl cs ds w ⟨_, _, hxv⟩ hcs (fun _ => hds) (by omega)
                  by_cases hle : sl + xl ≤ C
                  · -- in place
                    rw [if_pos hle] at this
                    have hne : ¬ (sx = true ∧ sl = sc) := by rintro ⟨e1, e2⟩; have := g4 e1; omega
                    obtain ⟨rfl, rfl⟩ : own = true ∧ es = i.size := by rcases hf3 with h | h; exact absurd h hne; exact h
                    have hups : (bif sx && Nat.beq sl sc then [] else [(sb, ABlk.dead)]) = [(sb, .dead)] := by
                      cases hsx : sx with
                      | false => rfl
                      | true =>
                        have : Nat.beq sl sc = false := by
                          cases hq : Nat.beq sl sc with
                          | false => rfl
                          | true => exact absurd ⟨hsx, Nat.eq_of_beq_eq_true hq⟩ hne
                        simp [this]
                    rcases g5 with g5 | ⟨rfl, g5⟩
                    · omega
                    · have hS0 : p.O + so + C * i.size ≤ p.S := by rcases g5 with g5 | g5; omega; exact g5
                      have hm : (sl + xl) * i.size ≤ C * i.size := Nat.mul_le_mul_right _ hle
                      rw [Nat.add_mul] at hm
                      obtain ⟨w', ι', q1, q2, q3, q4⟩ := hS.inPlace hbs g1 hn (n := sl * i.size) hf1 hrel (by omega)
                      have hadd : (⟨p.B, p.O + so, none⟩ : Addr).add (sl * i.size) = ⟨p.B, p.O + so + sl * i.size, none⟩ := addr_add _ _ _
                      simp only [hadd, q1, Result.andThen_ok] at this
                      refine ⟨_, _, w', ι', hrun _ _ _ (by rw [hsv]; exact this), .inl rfl, ?_, by rw [hups]; exact q3, by rw [hups]; exact q4⟩
                      refine .slc q2 (Nat.le_refl _) hle (fun h => by cases h) (.inr ⟨by simp, .inr ?_⟩)
                      show p.O + so + 0 + C * i.size ≤ p.S
                      omega
                  · rw [if_neg hle] at this
                    have hcap : sl + xl ≤ grownCap w (sl + xl) C el := by simp [grownCap, Question.cut]
                    have hboth := hreld.append hrel
                    have hlb : (ds ++ cs).length = (sl + xl) * i.size := by rw [List.length_append, hlen, hlend, Nat.add_mul]
                    have fin : ∀ h1, RelS P base ι h1 w → StepR ι h w ι h1 w → h1.get aid = none → ∃ n v' w' ι', (execOp a.eval o).run P w = .ok n w' ∧ NextV n v' ∧ RelV ι' (.slc (some (aid, 0)) (sl + xl) (sl + xl) false i.size) v' ∧
                        RelS P base ι' (h1.new aid (.cells ((l.drop so).take (sl * i.size) ++ (l'.drop xo).take (xl * i.size)) true)) w' ∧ StepR ι h w ι' (h1.new aid (.cells ((l.drop so).take (sl * i.size) ++ (l'.drop xo).take (xl * i.size)) true)) w' := by
                      intro h1 k1 k2 k3
                      obtain ⟨ι', r1, r2, r3⟩ := k1.grown hbw k3 (el := el) hzr hzs hcap hboth hlb
                      refine ⟨_, _, _, ι', hrun _ _ _ (by rw [hsv]; exact this), .inl rfl, r1, ?_, ?_⟩
                      · simpa using r2
                      · simpa using k2.trans r3
                    by_cases hk : (sx && Nat.beq sl sc) = true
                    · rw [hk]; exact fin h hS (.refl _ _ _) hn
                    · have hk' : (sx && Nat.beq sl sc) = false := (Bool.not_eq_true _).mp hk
                      rw [hk']
                      obtain ⟨k1, k2⟩ := hS.kill hbs
                      refine fin (h.put sb .dead) k1 k2 ?_
                      rw [H.get_put, if_neg (by intro e; subst e; rw [hn] at hbs; cases hbs)]; exact hn
            · cases hf
          · cases hf
        · rw [Loc.run_no] at hr2; cases hr2
    · rw [Loc.run_no] at hr1; cases hr1
  · rw [Loc.run_no] at hr; cases hr

theorem sim_copy {o : Oper} (c : Call) (t tx el elx : TypeId) (n : Nat) (d x : Operand) (ho : o.op = .call c) (hb : c.callee = .builtin .copy) (ha : c.args.toList = [d, x]) (h0 : c.argTypes[0]? = some t)
    (ht : P.underlying t = some (.slice el)) (_hx : P.underlying tx = some (.slice elx)) (hs : sz P el = some n) : OpSim P base o (.copy n (ao d) (ao x)) := by
  intro ι e h w a aid v h' fp hS hbw hE hn hr
  have hd := ao_rel hE d
  have hx := ao_rel hE x
  have hrun : ∀ W v W', (Builtin.copy_ c.argTypes o.type #[a.eval d, a.eval x]).run P W = .ok v W' → (execOp a.eval o).run P W = .ok (.value v) W' := by
    intro W v W' hW
    obtain ⟨cs, he⟩ := run_builtin ho hb a.eval
    rw [he, args_two ha]
    simp [builtin, hW]
  have nothing : ∀ (D : Option Addr) (dl dc : Nat) (X : Option Addr) (xl xc : Nat), Nat.min xl dl = 0 → a.eval d = .slice D dl dc → a.eval x = .slice X xl xc →
      (Builtin.copy_ c.argTypes o.type #[a.eval d, a.eval x]).run P w = .ok (.int .i64 0) w := by
    intro D dl dc X xl xc hmin h1 h2
    rw [h1, h2]
    have hf : (Builtin.firstCells n 0 (.slice X xl xc)).run P w = .ok #[] w := by
      cases X with
      | none => simp [Builtin.firstCells]
      | some X => have := run_loadCells_list (P := P) w X [] (by simp); simpa [Builtin.firstCells] using this
    unfold Builtin.copy_
    simp only [h0, List.getElem?_toArray, List.getElem?_cons_zero, List.getElem?_cons_succ, Sem.run_bind, run_underlying ht, Result.andThen_ok, Builtin.lenOf, Sem.run_pure, sz_run hs, hmin, hf]
    cases D <;> simp [storeCells, goInt]
  simp only [opLoc] at hr
  split at hr
  · rename_i db dz dl dc dx des sb so sl sc sx ses hpd hpx
    rw [hpd] at hd
    rw [hpx] at hx
    obtain ⟨bs, v0, ups, nw, hg, hf, hcase⟩ := Loc.run_inv hr
    obtain ⟨blk, blk', hbd, hbx, rfl⟩ := getAll_two hg
    simp only at hf
    split at hf
    · rename_i l l' own' heq
      simp only [List.cons.injEq, and_true] at heq; obtain ⟨rfl, rfl⟩ := heq
      split at hf
      · rename_i hfit
        simp only [Option.some.injEq, Prod.mk.injEq] at hf
        obtain ⟨rfl, rfl, rfl⟩ := hf
        rcases hcase with ⟨_, rfl, rfl⟩ | ⟨r, hx'', _⟩
        · obtain ⟨cs, hcs, hrel, hlen⟩ := firstCells_rel hS hx hbx (Nat.min_le_left sl dl) hfit.2
          obtain ⟨A', C', hxv, _⟩ := rel_slc_len hx
          generalize hdv : a.eval d = D' at hd
          cases hd with
          | slc g1 g2 g3 g4 g5 =>
            rename_i C A p
            rcases g5 with g5 | ⟨rfl, _⟩
            · have hm : min sl dl = 0 := by omega
              have hno := nothing (some A) dl C A' sl C' hm hdv hxv
              rw [hm] at hrel ⊢
              have hsp : splice l dz ((l'.drop so).take (0 * n)) = l := by simp [splice]
              rw [hsp]
              refine ⟨_, _, w, ι, hrun _ _ _ hno, .inl rfl, .int _ _, ?_, ?_⟩
              · obtain ⟨p', hp', hlt, hr'⟩ := hS.blk db _ hbd
                exact (hS.put hbd rfl hp' rfl (fun _ _ => rfl) hr').1
              · obtain ⟨p', hp', hlt, hr'⟩ := hS.blk db _ hbd
                exact (hS.put hbd rfl hp' rfl (fun _ _ => rfl) hr').2
            · have hlc : ((l'.drop so).take (min sl dl * n)).length = min sl dl * n := by rw [hrel.1.1, hlen]
              obtain ⟨w', h1, h2, h3⟩ := hS.write (o := dz) hbd g1 hrel (by rw [hlc]; exact hfit.1)
              refine ⟨_, _, w', ι, hrun _ (.int .i64 (min sl dl : Nat)) _ ?_, .inl rfl, .int _ _, h2, h3⟩
              rw [hdv, hxv]
              unfold Builtin.copy_
              rw [hxv] at hcs
              simp only [h0, List.getElem?_toArray, List.getElem?_cons_zero, List.getElem?_cons_succ, Sem.run_bind, run_underlying ht, Result.andThen_ok, Builtin.lenOf, Sem.run_pure, sz_run hs]
              have e : Nat.min sl dl = min sl dl := rfl
              rw [e, hcs w rfl]
              simp only [Result.andThen_ok, h1]
              rfl
        · cases hx''
      · cases hf
    · cases hf
  · rename_i dl dc dx des xa xl xc xx xes hpd hpx
    rw [hpd] at hd
    rw [hpx] at hx
    rw [Loc.run_val] at hr
    simp only [Option.map_some, Option.some.injEq, Prod.mk.injEq] at hr
    obtain ⟨rfl, rfl, _⟩ := hr
    obtain ⟨A', C', hxv, _⟩ := rel_slc_len hx
    have hdv : a.eval d = .slice none 0 0 ∧ dl = 0 := by generalize a.eval d = D at hd ⊢; cases hd; exact ⟨rfl, rfl⟩
    refine ⟨_, _, w, ι, hrun _ _ _ (nothing _ _ _ _ _ _ ?_ hdv.1 hxv), .inl rfl, .int _ _, hS, .refl _ _ _⟩
    exact Nat.min_zero _
  · rename_i hpd hpx
    rw [hpd] at hd
    rw [hpx] at hx
    rw [Loc.run_val] at hr
    simp only [Option.map_some, Option.some.injEq, Prod.mk.injEq] at hr
    obtain ⟨rfl, rfl, _⟩ := hr
    obtain ⟨A', C', hdv, _⟩ := rel_slc_len hd
    have hxv : ∃ xl, a.eval x = .slice none xl 0 ∧ xl = 0 := by generalize a.eval x = D at hx ⊢; cases hx; exact ⟨0, rfl, rfl⟩
    obtain ⟨xl, hxv, rfl⟩ := hxv
    refine ⟨_, _, w, ι, hrun _ _ _ (nothing _ _ _ _ _ _ ?_ hdv hxv), .inl rfl, .int _ _, hS, .refl _ _ _⟩
    exact Nat.zero_min _
  · rw [Loc.run_no] at hr; cases hr

theorem sim_clrS {o : Oper} (c : Call) (t el : TypeId) (n : Nat) (z : List AV) (x : Operand) (ho : o.op = .call c) (hb : c.callee = .builtin .clear) (ha : c.args.toList = [x]) (h0 : c.argTypes[0]? = some t)
    (ht : P.underlying t = some (.slice el)) (hz : zeroL P el = some z) (hs : sz P el = some n) (hzn : z.length = n) : OpSim P base o (.clrS z (ao x)) := by
  intro ι e h w a aid v h' fp hS hbw hE hn hr
  have hx := ao_rel hE x
  have hrun : ∀ W v W', (Builtin.clear_ c.argTypes o.type #[a.eval x]).run P W = .ok v W' → (execOp a.eval o).run P W = .ok (.value v) W' := by
    intro W v W' hW
    obtain ⟨cs, he⟩ := run_builtin ho hb a.eval
    rw [he, args_one ha]
    simp [builtin, hW]
  have tup : RelV ι (.tup []) (.tuple #[]) := .tup rfl (by simp)
  simp only [opLoc] at hr
  split at hr
  · rename_i k cc ex es hp
    rw [hp] at hx
    rw [Loc.run_val] at hr
    simp only [Option.map_some, Option.some.injEq, Prod.mk.injEq] at hr
    obtain ⟨rfl, rfl, _⟩ := hr
    have hxv : ∃ q, a.eval x = .slice none q 0 := by generalize a.eval x = D at hx ⊢; cases hx; exact ⟨0, rfl⟩
    obtain ⟨q, hxv⟩ := hxv
    refine ⟨_, _, w, ι, hrun _ (.tuple #[]) _ ?_, .inl rfl, tup, hS, .refl _ _ _⟩
    rw [hxv]
    simp [Builtin.clear_, h0, run_underlying ht]
  · rename_i b k m cc ex es hp
    rw [hp] at hx
    rcases Loc.run_ite hr with ⟨hm, hr1⟩ | ⟨hm, hr1⟩
    · subst hm
      rw [Loc.run_val] at hr1
      simp only [Option.map_some, Option.some.injEq, Prod.mk.injEq] at hr1
      obtain ⟨rfl, rfl, _⟩ := hr1
      obtain ⟨A', C', hxv, _⟩ := rel_slc_len hx
      refine ⟨_, _, w, ι, hrun _ (.tuple #[]) _ ?_, .inl rfl, tup, hS, .refl _ _ _⟩
      rw [hxv]
      cases A' <;> simp [Builtin.clear_, h0, run_underlying ht]
    · obtain ⟨bs, v0, ups, nw, hg, hf, hcase⟩ := Loc.run_inv hr1
      obtain ⟨blk, hbx, rfl⟩ := getAll_one hg
      simp only at hf
      split at hf
      · rename_i l heq
        simp only [List.cons.injEq, and_true] at heq; subst heq
        split at hf
        · rename_i hfit
          simp only [Option.some.injEq, Prod.mk.injEq] at hf
          obtain ⟨rfl, rfl, rfl⟩ := hf
          rcases hcase with ⟨_, rfl, rfl⟩ | ⟨r, hx'', _⟩
          · obtain ⟨zv, hz1, hz2, _⟩ := zeroL_rel hz
            have hzs : zv.cells.size = n := by have := (hz2 ι).1.1; simp at this; omega
            generalize hxv : a.eval x = X at hx
            cases hx with
            | slc g1 g2 g3 g4 g5 =>
              rename_i C A p
              rcases g5 with g5 | ⟨rfl, _⟩
              · omega
              · have hzc : (Builtin.zeroCells zv.cells m).toList = (List.replicate m zv.cells.toList).flatten := by
                  unfold Builtin.zeroCells
                  by_cases h0 : zv.cells.size = 0
                  · have : zv.cells = #[] := Array.eq_empty_of_size_eq_zero h0
                    rw [this]; simp
                  · exact range_cells _ _ (by omega)
                have hrel := (hz2 ι).flat m
                rw [← hzc] at hrel
                have hlf : ((List.replicate m z).flatten).length = m * z.length := by simp
                obtain ⟨w', h1, h2, h3⟩ := hS.write (o := k) hbx g1 hrel (by rw [hlf]; exact hfit)
                refine ⟨_, _, w', ι, hrun _ (.tuple #[]) _ ?_, .inl rfl, tup, h2, h3⟩
                rw [hxv]
                obtain ⟨m, rfl⟩ : ∃ q, m = q + 1 := ⟨m - 1, by omega⟩
                simp [Builtin.clear_, h0, run_underlying ht, hz1, h1]
          · cases hx''
        · cases hf
      · cases hf
  · rw [Loc.run_no] at hr; cases hr
end Go.Ax
