/-
  Operations on memory: aggregates, slices that are made, appended to, copied and cleared.
-/
import Derived.Test.YtmhbmnonichopaaXB5
namespace Go.Ax

variable {P : Program} {base : Nat}

theorem mapM_places (fs : Array Field) (hall : fs.all (fun f => (sz P f.type).isSome) = true) (w : World) :
    (fs.mapM (fun f => do pure (f.offset, ← sizeOf f.type) : Field → Sem (Nat × Nat))).run P w = .ok (fs.map fun f => (f.offset, (sz P f.type).getD 0)) w := by
  rw [Array.mapM_eq_mapM_toList]
  have key : ∀ (l : List Field), (∀ f ∈ l, (sz P f.type).isSome = true) → (l.mapM (fun f => do pure (f.offset, ← sizeOf f.type) : Field → Sem (Nat × Nat))).run P w = .ok (l.map fun f => (f.offset, (sz P f.type).getD 0)) w := by
    intro l
    induction l with
    | nil => intro _; simp
    | cons f l ih =>
      intro h
      obtain ⟨n, hn⟩ := Option.isSome_iff_exists.1 (h f (by simp))
      rw [List.mapM_cons]
      simp only [Sem.run_bind, sz_run hn, Result.andThen_ok, Sem.run_pure, ih (fun g hg => h g (by simp [hg])), List.map_cons, hn, Option.getD_some]
  rw [Sem.run_map, key fs.toList (by
    intro f hf
    obtain ⟨i, hi, rfl⟩ := Array.mem_iff_getElem.1 (Array.mem_toList_iff.1 hf)
    exact Array.all_eq_true.1 hall i hi), Result.andThen_ok]
  congr 1
  apply Array.ext'
  simp

theorem place_eq (fs : Array Field) (hall : fs.all (fun f => (sz P f.type).isSome) = true) : (fun (i : Nat) => (fs[i]?).bind (fieldSz P)) = (fun (i : Nat) => (fs.map fun f => (f.offset, (sz P f.type).getD 0))[i]?) := by
  funext i
  rw [Array.getElem?_map]
  cases h : fs[i]? with
  | none => rfl
  | some f =>
    have : (sz P f.type).isSome = true := by
      have := Array.all_eq_true.1 hall i (Array.getElem?_eq_some_iff.1 h).1
      rw [(Array.getElem?_eq_some_iff.1 h).2] at this
      exact this
    obtain ⟨n, hn⟩ := Option.isSome_iff_exists.1 this
    simp [fieldSz, hn]

theorem sim_build {o : Oper} (t : TypeId) (ps : Array (Nat × Operand)) (z : List AV) (place : Nat → Option (Nat × Nat)) (l : List (Nat × Nat × AO)) (ho : o.op = .build t ps) (hz : zeroL P t = some z)
    (hl : partsOf place ps.toList = some l)
    (hd : (∃ fs, P.underlying t = some (.struct fs) ∧ fs.all (fun f => (sz P f.type).isSome) = true ∧ place = fun i => (fs[i]?).bind (fieldSz P)) ∨
      (∃ k el n, P.underlying t = some (.array k el) ∧ sz P el = some n ∧ place = fun i => some (i * n, n))) : OpSim P base o (.build z l) := by
  refine OpSim.val (fun ρ => Instr.build t (ps.map fun (i, x) => (i, ρ x))) (fun e => (fillC e z l).map .agg) (fun e => rfl) (fun ρ => by simp [execOp, ho]) ?_
  intro ι e a w r hE hr
  cases hf : fillC e z l with
  | none => rw [hf] at hr; cases hr
  | some r0 =>
    rw [hf] at hr
    simp only [Option.map_some, Option.some.injEq] at hr; subst hr
    obtain ⟨zv, h1, h2, _⟩ := zeroL_rel hz
    obtain ⟨L, h3, h4⟩ := fill_rel hE place ps.toList l z r0 zv.cells hl (h2 ι) hf
    refine ⟨.agg L, ?_, by simpa using h4.agg⟩
    have hps : (ps.map fun (i, x) => (i, a.eval x)).toList = ps.toList.map fun (i, x) => (i, a.eval x) := by simp
    rcases hd with ⟨fs, hu, hall, hpl⟩ | ⟨k, el, n, hu, hs, hpl⟩
    · unfold Instr.build
      simp only [Sem.run_bind, h1, Result.andThen_ok, run_underlying hu, mapM_places fs hall, hps]
      rw [hpl, place_eq fs hall] at h3
      simp only [h3, Sem.run_pure]
    · unfold Instr.build
      simp only [Sem.run_bind, h1, Result.andThen_ok, run_underlying hu, sz_run hs, hps]
      rw [hpl] at h3
      simp only [h3, Sem.run_pure]

theorem flat_get {α : Type} (l : List α) : ∀ (n i : Nat), ((List.replicate n l).flatten)[i]? = if i < n * l.length then l[i % l.length]? else none
  | 0, i => by simp
  | n + 1, i => by
    rw [List.replicate_succ, List.flatten_cons, List.getElem?_append]
    by_cases h : i < l.length
    · rw [if_pos h, if_pos (by rw [Nat.succ_mul]; omega), Nat.mod_eq_of_lt h]
    · rw [if_neg h, flat_get l n (i - l.length)]
      have e : (i - l.length) % l.length = i % l.length := by rw [Nat.mod_eq_sub_mod (by omega : i ≥ l.length)]
      rw [e, Nat.succ_mul]
      by_cases h2 : i - l.length < n * l.length
      · rw [if_pos h2, if_pos (by omega)]
      · rw [if_neg h2, if_neg (by omega)]

theorem range_cells (z : Array Value) (n : Nat) (hz : 0 < z.size) : ((Array.range (n * z.size)).map (z[· % z.size]!)).toList = (List.replicate n z.toList).flatten := by
  apply List.ext_getElem?
  intro i
  rw [flat_get]
  simp only [Array.toList_map, Array.toList_range, List.getElem?_map, Array.length_toList]
  by_cases h : i < n * z.size
  · rw [if_pos h, List.getElem?_range h]
    have hm : i % z.size < z.size := Nat.mod_lt _ hz
    simp [hm]
  · rw [if_neg h, List.getElem?_eq_none (by simpa using h)]
    rfl

theorem sim_bslice {o : Oper} (t el : TypeId) (len n : Nat) (ps : Array (Nat × Operand)) (z : List AV) (l : List (Nat × Nat × AO)) (ho : o.op = .buildSlice t len ps) (hu : P.underlying t = some (.slice el)) (hz : zeroL P el = some z) (hs : sz P el = some n)
    (hc : z.length = n ∧ 0 < n ∧ len * n ≤ 1024) (hl : partsOf (fun i => some (i * n, n)) ps.toList = some l) : OpSim P base o (.bslice ((List.replicate len z).flatten) len n l) := by
  intro ι e h w a aid v h' fp hS hbw hE hn hr
  simp only [opLoc] at hr
  split at hr
  · rename_i cs hcs
    obtain ⟨bs, v0, ups, nw, hg, hf, hcase⟩ := Loc.run_inv hr
    simp only [Option.some.injEq, Prod.mk.injEq] at hf
    obtain ⟨rfl, rfl, rfl⟩ := hf
    rcases hcase with ⟨hx', _⟩ | ⟨x, hx', rfl, rfl⟩
    · cases hx'
    · simp only [Option.some.injEq] at hx'; subst hx'
      obtain ⟨zv, h1, h2, _⟩ := zeroL_rel hz
      have hzs : zv.cells.size = n := by have := (h2 ι).1.1; simp at this; omega
      have hps : (ps.map fun (i, x) => (i, a.eval x)).toList = ps.toList.map fun (i, x) => (i, a.eval x) := by simp
      -- the row of zeros
      obtain ⟨row, hrow, hrun⟩ : ∃ row : Array Value, row.toList = (List.replicate len zv.cells.toList).flatten ∧
          (Instr.buildSlice t len (ps.map fun (i, x) => (i, a.eval x))).run P w = (match Instr.fill (fun i => some (i * n, n)) row (ps.toList.map fun (i, x) => (i, a.eval x)) with
            | some cells => .ok (.slice (some ⟨w.heap.size, 0, none⟩) len len) (w.alloc (.cells cells el))
            | none => .halt (.stuck "buildSlice: a part of the wrong size") w) := by
        refine ⟨(Array.range (len * zv.cells.size)).map (zv.cells[· % zv.cells.size]!), range_cells _ _ (by omega), ?_⟩
        unfold Instr.buildSlice
        simp only [Sem.run_bind, run_underlying hu, Result.andThen_ok, sz_run hs]
        rw [if_neg (by omega)]
        by_cases h0 : len * n = 0
        · have hl0 : len = 0 := by rcases Nat.mul_eq_zero.1 h0 with h | h <;> omega
          subst hl0
          simp only [Nat.zero_mul, if_true, Sem.run_bind, Sem.run_pure, Result.andThen_ok, hps]
          have er : (Array.map (fun x => (#[] : Array Value)[x % (#[] : Array Value).size]!) (Array.range 0)) = Array.map (fun x => zv.cells[x % zv.cells.size]!) (Array.range 0) := by simp
          rw [er]
          cases hfl : Instr.fill (fun i => some (i * n, n)) (Array.map (fun x => zv.cells[x % zv.cells.size]!) (Array.range 0)) (ps.toList.map fun (i, x) => (i, a.eval x)) with
          | none => rfl
          | some cells => rfl
        · rw [if_neg h0]
          simp only [Sem.run_bind, h1, Sem.run_pure, Result.andThen_ok, hps, hzs]
          cases hfl : Instr.fill (fun i => some (i * n, n)) (Array.map (fun x => zv.cells[x % n]!) (Array.range (len * n))) (ps.toList.map fun (i, x) => (i, a.eval x)) with
          | none => rfl
          | some cells => rfl
      have hrel : RelC ι ((List.replicate len z).flatten) row.toList := by rw [hrow]; exact (h2 ι).flat len
      obtain ⟨L, h3, h4⟩ := fill_rel hE _ ps.toList l _ cs row hl hrel hcs
      rw [h3] at hrun
      simp only at hrun
      have hLs : cs.length = len * n := by
        have : ∀ (ps : List (Nat × Nat × AO)) (z l : List AV), fillC e z ps = some l → l.length = z.length := by
          intro ps
          induction ps with
          | nil => intro z l h; simp [fillC] at h; rw [h]
          | cons p ps ih =>
            intro z l h
            obtain ⟨off, m, x⟩ := p
            simp only [fillC] at h
            split at h
            · split at h
              · rename_i hc
                rw [ih _ _ h]
                simp; omega
              · cases h
            · cases h
        rw [this _ _ _ hcs]
        simp [hc.1]
      obtain ⟨p, hB, hO, hS', hi, h5, h6⟩ := hS.newRow hbw hn el h4
      refine ⟨.value (.slice (some ⟨w.heap.size, 0, none⟩) len len), .slice (some ⟨w.heap.size, 0, none⟩) len len, _, _, ?_, .inl rfl, ?_, h5, h6⟩
      · simp [execOp, ho, hrun]
      · refine .slc hi (Nat.le_refl _) (Nat.le_refl _) (fun _ => rfl) (.inr ⟨by rw [hB, hO], .inr ?_⟩)
        have := h4.1.1
        simp at this
        rw [hO, hS']; omega
  · rw [Loc.run_no] at hr; cases hr

theorem sim_mkslc {o : Oper} (t el : TypeId) (i : TypeInfo) (z : List AV) (x y : Operand) (ho : o.op = .makeSlice t x y) (hu : P.underlying t = some (.slice el)) (hi : P.info? el = some i) (hz : zeroL P el = some z)
    (hc : z.length = i.size ∧ 0 < i.size ∧ 0 < i.bytes) : OpSim P base o (.mkslc z i.bytes (ao x) (ao y)) := by
  intro ι e h w a aid v h' fp hS hbw hE hn hr
  have hx := ao_rel hE x
  have hy := ao_rel hE y
  simp only [opLoc] at hr
  split at hr
  · rename_i l c hpx hpy
    split at hr
    · rename_i hb
      obtain ⟨bs, v0, ups, nw, hg, hf, hcase⟩ := Loc.run_inv hr
      simp only [Option.some.injEq, Prod.mk.injEq] at hf
      obtain ⟨rfl, rfl, rfl⟩ := hf
      rcases hcase with ⟨hx', _⟩ | ⟨r, hx', rfl, rfl⟩
      · cases hx'
      · simp only [Option.some.injEq] at hx'; subst hx'
        obtain ⟨zv, h1, h2, i', hi', hzv⟩ := zeroL_rel hz
        rw [hi] at hi'; cases hi'
        have hzs : zv.cells.size = i.size := by have := (h2 ι).1.1; simp at this; omega
        rw [hpx] at hx
        rw [hpy] at hy
        obtain ⟨hl0, hlc, hroom⟩ := hb
        simp only [room] at hroom
        have hbig : c ≤ 70368744177664 := by
          have : (c : Int) ≤ (i.bytes : Int) * c := by
            have h1 : (1 : Int) * c ≤ (i.bytes : Int) * c := Int.mul_le_mul_of_nonneg_right (by omega) (by omega)
            simpa using h1
          omega
        have wl : IntKind.i64.wrap l = l := by
          simp only [IntKind.wrap, IntKind.bits, IntKind.signed]
          simp
          omega
        have wc : IntKind.i64.wrap c = c := by
          simp only [IntKind.wrap, IntKind.bits, IntKind.signed]
          simp
          omega
        have hrow : ((Array.range (c.toNat * i.size)).map (zv.cells[· % zv.cells.size]!)).toList = (List.replicate c.toNat zv.cells.toList).flatten := by
          rw [← hzs]; exact range_cells _ _ (by omega)
        have hrel : RelC ι ((List.replicate c.toNat z).flatten) ((Array.range (c.toNat * i.size)).map (zv.cells[· % zv.cells.size]!)).toList := by rw [hrow]; exact (h2 ι).flat _
        obtain ⟨p, hB, hO, hS', hip, h5, h6⟩ := hS.newRow hbw hn el hrel
        refine ⟨.value (.slice (some ⟨w.heap.size, 0, none⟩) l.toNat c.toNat), .slice (some ⟨w.heap.size, 0, none⟩) l.toNat c.toNat, _, _, ?_, .inl rfl, ?_, h5, h6⟩
        · have t1 : ¬ (c < 0) := by omega
          have t2 : ¬ ((i.bytes : Int) * c > 281474976710656) := by omega
          have t3 : ¬ (l < 0) := by omega
          have t4 : ¬ (l > c) := by omega
          simp only [execOp, ho, Sem.run_bind, Instr.makeSlice, run_underlying hu, Result.andThen_ok, asInt, rel_int hx, rel_int hy, asIntOf, Sem.run_pure, typeInfo, run_program, hi, wl, wc]
          simp only [show ((2 : Int) ^ 48) = 281474976710656 from rfl, t1, t2, t3, t4, decide_false, Bool.or_false, Bool.false_or, Bool.false_eq_true, if_false, Sem.run_bind, Sem.run_pure, Result.andThen_ok, run_askRoom, sizeOf, typeInfo, run_program, hi]
          by_cases h0 : c.toNat * i.size = 0
          · simp only [h0, if_true, Sem.run_bind, Sem.run_pure, Result.andThen_ok]
            have er : (Array.map (fun x => (#[] : Array Value)[x % (#[] : Array Value).size]!) (Array.range 0)) = Array.map (fun x => zv.cells[x % zv.cells.size]!) (Array.range 0) := by simp
            rw [er]
            rfl
          · simp only [h0, if_false, Sem.run_bind, h1, Sem.run_pure, Result.andThen_ok]
            rfl
        · refine .slc hip (by omega) (Nat.le_refl _) (fun _ => rfl) (.inr ⟨by rw [hB, hO], .inr ?_⟩)
          have : ((Array.range (c.toNat * i.size)).map (zv.cells[· % zv.cells.size]!)).size = c.toNat * i.size := by simp
          rw [hO, hS', this, hc.1]; omega
    · rw [Loc.run_no] at hr; cases hr
  · rw [Loc.run_no] at hr; cases hr
end Go.Ax
