/-
  Operations on memory: rows of cells.
-/
import Derived.Test.YtmhbmnonichopaaXB4
namespace Go.Ax

variable {P : Program} {base : Nat}

theorem cell_of {w : World} {B k : Nat} {arr : Array Value} {ty : TypeId} {fz : Nat × Nat} (h : w.heap[B]? = some (.cells arr ty fz)) : w.cell? ⟨B, k, none⟩ = arr[k]? := by
  simp [World.cell?, h]

theorem getElem?_window {α : Type} (L : List α) (O n i : Nat) : ((L.drop O).take n)[i]? = if i < n then L[O + i]? else none := by
  rw [List.getElem?_take]
  split <;> simp [List.getElem?_drop]

theorem window_sub {α : Type} (L : List α) (O n o m : Nat) (h : o + m ≤ n) : ((((L.drop O).take n).drop o).take m) = (L.drop (O + o)).take m := by
  apply List.ext_getElem?
  intro i
  simp only [List.getElem?_take, List.getElem?_drop]
  by_cases a : i < m
  · rw [if_pos a, if_pos (by omega), if_pos a, Nat.add_assoc]
  · rw [if_neg a, if_neg a]

theorem window_splice {α : Type} (L : List α) (O n o : Nat) (vs : List α) (h1 : O + n ≤ L.length) (h2 : o + vs.length ≤ n) :
    ((L.take (O + o) ++ vs ++ L.drop (O + o + vs.length)).drop O).take n = ((L.drop O).take n).take o ++ vs ++ ((L.drop O).take n).drop (o + vs.length) := by
  apply List.ext_getElem?
  intro i
  rw [getElem?_window]
  simp only [List.getElem?_append, List.length_append, List.length_take, List.length_drop, List.getElem?_take, List.getElem?_drop]
  have e1 : min (O + o) L.length = O + o := by omega
  have e2 : min o (min n (L.length - O)) = o := by omega
  rw [e1, e2]
  by_cases a : i < n
  · rw [if_pos a]
    by_cases b : i < o
    · rw [if_pos (by omega : O + i < O + o + vs.length), if_pos (by omega : O + i < O + o), if_pos (by omega : O + i < O + o), if_pos (by omega : i < o + vs.length), if_pos b, if_pos b, if_pos a]
    · by_cases c : i < o + vs.length
      · rw [if_pos (by omega : O + i < O + o + vs.length), if_neg (by omega : ¬ O + i < O + o), if_pos c, if_neg b]
        congr 1; omega
      · rw [if_neg (by omega : ¬ O + i < O + o + vs.length), if_neg c, if_pos (by omega)]
        congr 1; omega
  · rw [if_neg a]
    rw [if_neg (by omega : ¬ i < o + vs.length), if_neg (by omega)]

theorem run_load_var {ι : Io} {h : H} {w : World} (hS : RelS P base ι h w) {b o : Nat} {l : List AV} {own : Bool} (hb : h.get b = some (.cells l own)) {p : Pl} (hp : ι b = some p)
    {t : TypeId} {n : Option Nat} (ha : agn P t = some n) {r : AV} (hr : partC l o n = some r) :
    ∃ r', (loadVar t ⟨p.B, p.O + o, none⟩).run P w = .ok r' w ∧ RelV ι r r' := by
  obtain ⟨q, arr, ty, fz, hq, hlt, hg, hle, hc⟩ := hS.row hb
  rw [hp] at hq; cases hq
  unfold loadVar
  simp only [Sem.run_bind, agn_isAgg ha, Result.andThen_ok]
  cases n with
  | none =>
    simp only [partC] at hr
    obtain ⟨v, hv, hrel⟩ := hc.1.get hr
    rw [getElem?_window] at hv
    split at hv
    · refine ⟨v, ?_, hrel⟩
      have : w.cell? ⟨p.B, p.O + o, none⟩ = some v := by rw [cell_of hg, ← Array.getElem?_toList]; exact hv
      simp [this]
    · cases hv
  | some m =>
    simp only [partC] at hr
    split at hr
    · rename_i hm
      simp only [Option.some.injEq] at hr; subst hr
      have h2 := ((hc.drop o).take m)
      rw [window_sub _ _ _ _ _ hm] at h2
      have hlen : ((arr.toList.drop (p.O + o)).take m).length = m := by simp; omega
      have hl := run_loadCells_list (P := P) w ⟨p.B, p.O + o, none⟩ ((arr.toList.drop (p.O + o)).take m) (by
        intro j v hj
        rw [getElem?_window] at hj
        split at hj
        · rw [addr_add, cell_of hg, ← Array.getElem?_toList]; exact hj
        · cases hj)
      rw [hlen] at hl
      refine ⟨.agg ((arr.toList.drop (p.O + o)).take m).toArray, ?_, h2.agg⟩
      simp only [Option.isSome_some, if_true, Sem.run_bind, sz_run (agn_some ha), Result.andThen_ok, hl, Sem.run_pure]
    · cases hr

theorem getAll_one {h : H} {b : Nat} {bs : List ABlk} (hg : getAll h [b] = some bs) : ∃ x, h.get b = some x ∧ bs = [x] := by
  simp only [getAll] at hg
  split at hg
  · rename_i x xs hx hxs
    simp at hxs; subst hxs
    simp at hg; exact ⟨x, hx, hg.symm⟩
  · cases hg
theorem getAll_two {h : H} {b c : Nat} {bs : List ABlk} (hg : getAll h [b, c] = some bs) : ∃ x y, h.get b = some x ∧ h.get c = some y ∧ bs = [x, y] := by
  have h0 : getAll h [b, c] = match h.get b, getAll h [c] with | some x, some xs => some (x :: xs) | _, _ => none := rfl
  rw [h0] at hg
  split at hg
  · rename_i x xs hx hxs
    obtain ⟨y, hy, rfl⟩ := getAll_one hxs
    simp at hg; exact ⟨x, y, hx, hy, hg.symm⟩
  · cases hg

/-- a row that an operation reads: what its run was -/
theorem Loc.run_inv {l : Loc} {aid : Nat} {h h' : H} {v : AV} {fp : FP} (hr : l.run aid h = some (v, h', fp)) :
    ∃ bs v0 ups nw, getAll h l.rd = some bs ∧ l.f bs = some (v0, ups, nw) ∧ ((nw = none ∧ v = v0 ∧ h' = h.puts ups) ∨ (∃ x, nw = some x ∧ v = atNew aid v0 ∧ h' = (h.puts ups).new aid x)) := by
  unfold Loc.run at hr
  split at hr
  · cases hr
  · rename_i bs hbs
    split at hr
    · cases hr
    · rename_i v0 ups hf
      simp only [Option.some.injEq, Prod.mk.injEq] at hr
      exact ⟨bs, v0, ups, none, hbs, hf, .inl ⟨rfl, hr.1.symm, hr.2.1.symm⟩⟩
    · rename_i v0 ups x hf
      simp only [Option.some.injEq, Prod.mk.injEq] at hr
      exact ⟨bs, v0, ups, some x, hbs, hf, .inr ⟨x, rfl, hr.1.symm, hr.2.1.symm⟩⟩

theorem sim_load {o : Oper} (t : TypeId) (x : Operand) (n : Option Nat) (ho : o.op = .load t x) (ha : agn P t = some n) : OpSim P base o (.load n (ao x)) := by
  intro ι e h w a aid v h' fp hS _ hE _ hr
  have hx := ao_rel hE x
  simp only [opLoc] at hr
  split at hr
  · rename_i b k hp
    obtain ⟨bs, v0, ups, nw, hg, hf, hcase⟩ := Loc.run_inv hr
    obtain ⟨blk, hb, rfl⟩ := getAll_one hg
    simp only at hf
    split at hf
    · rename_i l own heq
      simp only [List.cons.injEq, and_true] at heq; subst heq
      cases hpc : partC l k n with
      | none => rw [hpc] at hf; cases hf
      | some r =>
        rw [hpc] at hf
        simp only [Option.map_some, Option.some.injEq, Prod.mk.injEq] at hf
        obtain ⟨rfl, rfl, rfl⟩ := hf
        rcases hcase with ⟨_, rfl, rfl⟩ | ⟨x, hx', _⟩
        · rw [hp] at hx
          obtain ⟨q, hq, hv⟩ := rel_ptr hx
          obtain ⟨r', h1, h2⟩ := run_load_var hS hb hq ha hpc
          exact ⟨.value r', r', w, ι, by simp [execOp, ho, Instr.loadAt, hv, Instr.sureAddr, h1], .inl rfl, h2, hS, .refl _ _ _⟩
        · cases hx'
    · cases hf
  · rw [Loc.run_no] at hr; cases hr

/-- a row is written -/
theorem RelS.write {ι : Io} {h : H} {w : World} (hS : RelS P base ι h w) {b o : Nat} {l : List AV} (hb : h.get b = some (.cells l true)) {p : Pl} (hp : ι b = some p) {cs : List AV} {vs : List Value} (hc : RelC ι cs vs)
    (hle : o + cs.length ≤ l.length) : ∃ w', (storeCells ⟨p.B, p.O + o, none⟩ vs).run P w = .ok () w' ∧ RelS P base ι (h.put b (.cells (splice l o cs) true)) w' ∧ StepR ι h w ι (h.put b (.cells (splice l o cs) true)) w' := by
  obtain ⟨q, hq, hlt, hr⟩ := hS.blk b _ hb
  rw [hp] at hq; cases hq
  obtain ⟨hbase, arr, ty, hg, hsz, hfit, hrel⟩ := hr
  have hvl : vs.length = cs.length := hc.1.1.symm
  have hst := run_storeCells_at P p.B (p.O + o) ty vs 0 arr w hg (by omega) hc.one
  refine ⟨_, hst, hS.put hb rfl hp (by simp) (fun k hk => setRow_other _ _ _ _ hk) ?_⟩
  have hlen : (splice l o cs).length = l.length := by simp [splice]; omega
  refine ⟨hbase, _, ty, setRow_heap w p.B arr _ ty (0, 0) hg, ?_, by rw [hlen]; exact hfit, ?_⟩
  · simp; omega
  · rw [hlen]
    simp only [Nat.add_zero]
    rw [window_splice _ _ _ _ _ (by simp; omega) (by omega)]
    unfold splice
    rw [hvl]
    exact ((hrel.take o).append hc).append (hrel.drop (o + cs.length))

theorem sim_store {o : Oper} (t : TypeId) (x y : Operand) (n : Nat) (ho : o.op = .store t x y) (hs : sz P t = some n) : OpSim P base o (.store n (ao x) (ao y)) := by
  intro ι e h w a aid v h' fp hS _ hE _ hr
  have hx := ao_rel hE x
  have hy := ao_rel hE y
  simp only [opLoc] at hr
  split at hr
  · rename_i b k cs hp hcs
    split at hr
    · rename_i hn
      obtain ⟨bs, v0, ups, nw, hg, hf, hcase⟩ := Loc.run_inv hr
      obtain ⟨blk, hb, rfl⟩ := getAll_one hg
      simp only at hf
      split at hf
      · rename_i l heq
        simp only [List.cons.injEq, and_true] at heq; subst heq
        split at hf
        · rename_i hfit
          simp only [Option.some.injEq, Prod.mk.injEq] at hf
          obtain ⟨rfl, rfl, rfl⟩ := hf
          rcases hcase with ⟨_, rfl, rfl⟩ | ⟨x, hx', _⟩
          · rw [hp] at hx
            obtain ⟨q, hq, hv⟩ := rel_ptr hx
            have hc := hy.cells hcs
            obtain ⟨w', h1, h2, h3⟩ := hS.write (o := k) hb hq hc (by omega)
            refine ⟨.skip, undef, w', ι, ?_, .inr ⟨rfl, rfl⟩, .undef _, h2, h3⟩
            have hsize : (a.eval y).cells.size = n := by have := hc.1.1; simp at this; omega
            simp [execOp, ho, Instr.storeAt, hv, Instr.sureAddr, storeVar, sz_run hs, hsize, h1]
          · cases hx'
        · cases hf
      · cases hf
    · rw [Loc.run_no] at hr; cases hr
  · rw [Loc.run_no] at hr; cases hr

/-! ### What is made -/
theorem RelS.newRow {ι : Io} {h : H} {w : World} (hS : RelS P base ι h w) (hbw : base ≤ w.heap.size) {aid : Nat} (hn : h.get aid = none) (ty : TypeId) {l : List AV} {cells : Array Value} (hc : RelC ι l cells.toList) :
    ∃ p, p.B = w.heap.size ∧ p.O = 0 ∧ p.S = cells.size ∧ (ι.put aid p) aid = some p ∧ RelS P base (ι.put aid p) (h.new aid (.cells l true)) (w.alloc (.cells cells ty)) ∧ StepR ι h w (ι.put aid p) (h.new aid (.cells l true)) (w.alloc (.cells cells ty)) := by
  refine ⟨⟨w.heap.size, 0, cells.size⟩, rfl, rfl, rfl, Io.put_same _ _ _, hS.fresh hbw hn _ _ rfl ⟨hbw, cells, ty, heap_alloc_at _ _, rfl, by show 0 + l.length ≤ cells.size; have := hc.1.1; simp at this; omega, ?_⟩⟩
  have := hc.ext (Ext.put (⟨w.heap.size, 0, cells.size⟩ : Pl) (hS.unused aid hn))
  rw [List.drop_zero, List.take_of_length_le (by rw [hc.1.1]; exact Nat.le_refl _)]
  exact this

theorem zeroL_rel {t : TypeId} {z : List AV} (h : zeroL P t = some z) : ∃ v, (∀ w, (zeroValue t).run P w = .ok v w) ∧ (∀ ι, RelC ι z v.cells.toList) ∧ ∃ i, P.info? t = some i ∧ i.zero = some v := by
  unfold zeroL at h
  split at h
  · rename_i i hi
    split at h
    · rename_i v hv
      split at h
      · rename_i a ha
        exact ⟨v, fun w => by simp [zeroValue, typeInfo, hi, hv], fun ι => (liftV_rel ι ha).cells h, i, hi, hv⟩
      · cases h
    · cases h
  · cases h
theorem zeroA_rel {t : TypeId} {z : AV} (h : zeroA P t = some z) : ∃ v, (∀ w, (zeroValue t).run P w = .ok v w) ∧ (∀ ι, RelV ι z v) := by
  unfold zeroA at h
  split at h
  · rename_i i hi
    split at h
    · rename_i v hv
      exact ⟨v, fun w => by simp [zeroValue, typeInfo, hi, hv], fun ι => liftV_rel ι h⟩
    · cases h
  · cases h

theorem sim_alloc {o : Oper} (t : TypeId) (z : List AV) (ho : o.op = .alloc t) (hz : zeroL P t = some z) : OpSim P base o (.alloc z) := by
  intro ι e h w a aid v h' fp hS hbw hE hn hr
  obtain ⟨bs, v0, ups, nw, hg, hf, hcase⟩ := Loc.run_inv hr
  simp only [opLoc, Option.some.injEq, Prod.mk.injEq] at hf
  obtain ⟨rfl, rfl, rfl⟩ := hf
  rcases hcase with ⟨hx', _⟩ | ⟨x, hx', rfl, rfl⟩
  · cases hx'
  · simp only [Option.some.injEq] at hx'; subst hx'
    obtain ⟨zv, h1, h2, _⟩ := zeroL_rel hz
    obtain ⟨p, hB, hO, hS', hi, h3, h4⟩ := hS.newRow hbw hn t (h2 ι)
    refine ⟨.value (.pointer (some ⟨w.heap.size, 0, none⟩)), .pointer (some ⟨w.heap.size, 0, none⟩), _, _, ?_, .inl rfl, ?_, h3, h4⟩
    · simp only [execOp, ho, Sem.run_bind, Instr.alloc, h1, Result.andThen_ok]
      rfl
    · have := RelV.ptr (ι := ι.put aid p) (o := 0) hi
      rw [hB, hO] at this
      exact this

theorem sim_box {o : Oper} (t : TypeId) (x : Operand) (ho : o.op = .box t x) : OpSim P base o (.box (ao x)) := by
  intro ι e h w a aid v h' fp hS hbw hE hn hr
  have hx := ao_rel hE x
  simp only [opLoc] at hr
  split at hr
  · rename_i l hl
    obtain ⟨bs, v0, ups, nw, hg, hf, hcase⟩ := Loc.run_inv hr
    simp only [Option.some.injEq, Prod.mk.injEq] at hf
    obtain ⟨rfl, rfl, rfl⟩ := hf
    rcases hcase with ⟨hx', _⟩ | ⟨x, hx', rfl, rfl⟩
    · cases hx'
    · simp only [Option.some.injEq] at hx'; subst hx'
      obtain ⟨p, hB, hO, hS', hi, h3, h4⟩ := hS.newRow hbw hn t (hx.cells hl)
      refine ⟨.value (.pointer (some ⟨w.heap.size, 0, none⟩)), .pointer (some ⟨w.heap.size, 0, none⟩), _, _, ?_, .inl rfl, ?_, h3, h4⟩
      · simp only [execOp, ho, Sem.run_bind, Instr.box]
        rfl
      · have := RelV.ptr (ι := ι.put aid p) (o := 0) hi
        rw [hB, hO] at this
        exact this
  · rw [Loc.run_no] at hr; cases hr

/-! ### Parts laid in -/
theorem foldl_setIfInBounds (cs : List Value) : ∀ (k : Nat) (A : Array Value) (off : Nat), off + k + cs.length ≤ A.size →
    ((cs.zipIdx k).foldl (fun A (p : Value × Nat) => A.setIfInBounds (off + p.2) p.1) A).toList = A.toList.take (off + k) ++ cs ++ A.toList.drop (off + k + cs.length) := by
  induction cs with
  | nil => intro k A off h; simp
  | cons c cs ih =>
    intro k A off h
    simp only [List.zipIdx_cons, List.foldl_cons]
    rw [ih (k + 1) _ off (by simp at h ⊢; omega)]
    have := list_seg_step A.toList (off + k) c cs (by simp at h ⊢; omega)
    simpa [Array.toList_setIfInBounds, Nat.add_assoc] using this

theorem fill_rel {ι : Io} {e : Env} {a : Act} (hE : RelE ι e a.tmps) (place : Nat → Option (Nat × Nat)) : ∀ (ps : List (Nat × Operand)) (qs : List (Nat × Nat × AO)) (z l : List AV) (Z : Array Value),
    partsOf place ps = some qs → RelC ι z Z.toList → fillC e z qs = some l → ∃ L, Instr.fill place Z (ps.map fun (i, x) => (i, a.eval x)) = some L ∧ RelC ι l L.toList
  | [], qs, z, l, Z, hp, hz, hf => by
    simp [partsOf] at hp; subst hp
    simp [fillC] at hf; subst hf
    exact ⟨Z, by simp [Instr.fill], hz⟩
  | (i, x) :: ps, qs, z, l, Z, hp, hz, hf => by
    simp only [partsOf] at hp
    split at hp
    · rename_i off n r hpl hr
      simp only [Option.some.injEq] at hp; subst hp
      simp only [fillC] at hf
      split at hf
      · rename_i cs hcs
        split at hf
        · rename_i hc
          have hrel := (ao_rel hE x).cells hcs
          have hlen : (a.eval x).cells.size = n := by have := hrel.1.1; simp at this; omega
          have hZ : z.length = Z.size := by have := hz.1.1; simpa using this
          have hfold := foldl_setIfInBounds (a.eval x).cells.toList 0 Z off (by simp; omega)
          simp only [Nat.add_zero] at hfold
          have hz' : RelC ι (z.take off ++ cs ++ z.drop (off + n)) (((a.eval x).cells.toList.zipIdx 0).foldl (fun A (p : Value × Nat) => A.setIfInBounds (off + p.2) p.1) Z).toList := by
            rw [hfold]
            have : (a.eval x).cells.toList.length = n := by simp; omega
            rw [this]
            exact ((hz.take off).append hrel).append (hz.drop (off + n))
          obtain ⟨L, h1, h2⟩ := fill_rel hE place ps r _ l _ hr hz' hf
          refine ⟨L, ?_, h2⟩
          simp only [List.map_cons, Instr.fill, hpl]
          rw [if_neg (by simp [hlen]; omega)]
          rw [← h1]
          congr 1
          have e3 := Array.foldl_toList (fun (cs : Array Value) (p : Value × Nat) => cs.setIfInBounds (off + p.2) p.1) (init := Z) (xs := (a.eval x).cells.zipIdx)
          rw [Array.toList_zipIdx] at e3
          exact e3.symm
        · cases hf
      · cases hf
    · cases hp
end Go.Ax
