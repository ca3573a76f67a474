/-
  A kind of orders, out of what was read.
-/
import Derived.Test.YtmhbmnonichopaaXG1
open Go.RowKit Go.ChangeShapes Go.Proofs
namespace Go.Ax
set_option maxHeartbeats 1000000
set_option maxRecDepth 100000
theorem maxLen_lt {n : Nat} (h : n ≤ maxLen) : n ≤ 9223372036854775807 := h
theorem cellTypes27 : Try.prog.cellTypes Try.prog.depth 27 = some [2, 2, 3, 2, 2, 24, 25] := by kernel_rfl
theorem cells27 : Try.prog.cellsOf 27 = 7 := by kernel_rfl
theorem one2 : Try.prog.cellsOf 2 = 1 := by kernel_rfl
theorem one3 : Try.prog.cellsOf 3 = 1 := by kernel_rfl
theorem one24 : Try.prog.cellsOf 24 = 1 := by kernel_rfl
theorem one25 : Try.prog.cellsOf 25 = 1 := by kernel_rfl
theorem kind_open {H' : Type} {enc : TypeId × Value → H'} {W : World} {base : Nat} {v : Value} {d : DataW H'} {p : List MemPlace} (hval : Value.okWide Try.prog W .any base 27 v)
    (h : DataW.Trod enc Try.prog W 0 (fun _ => true) true 27 v d p) :
    ∃ (k : K) (sv cv : Value), v = .agg #[.int .i64 k.cap, .int .i64 k.load, .int .i64 k.most, .int .i64 k.slo, .int .i64 k.shi, sv, cv] ∧ SlcAt W sv k.sales.length (flat k.sales) ∧ SlcAt W cv k.costs.length (k.costs.map (.int .i64)) ∧
      k.sales.length ≤ maxLen ∧ k.costs.length ≤ maxLen := by
  simp only [Value.okWide, Try.underlying27] at hval
  obtain ⟨cs, rfl, hsz, ts, hts, _, hcell⟩ := hval
  rw [cellTypes27] at hts
  cases hts
  rw [cells27] at hsz
  obtain ⟨fuel, h⟩ := h
  obtain ⟨xs, n, _, _, _, hxs, hf⟩ := DataW.trod_struct Try.underlying27 h
  have hxs : xs.length = 6 := hxs
  obtain ⟨c0, c1, c2, c3, c4, c5, c6, rfl⟩ : ∃ c0 c1 c2 c3 c4 c5 c6, cs = #[c0, c1, c2, c3, c4, c5, c6] := by
    obtain ⟨l⟩ := cs
    have hl : l.length = 7 := hsz
    match l, hl with
    | [c0, c1, c2, c3, c4, c5, c6], _ => exact ⟨c0, c1, c2, c3, c4, c5, c6, rfl⟩
  have e : ∀ i, i < 6 → ∃ y, xs[i]? = some y := fun i hi => ⟨_, List.getElem?_eq_getElem (by omega)⟩
  have e0 : DataW.trod enc Try.prog W 0 (fun _ => true) true n 2 (([c0, c1, c2, c3, c4, c5, c6].drop 0).take (Try.prog.cellsOf 2)) = xs[0]? := hf 0 _ rfl
  have e1 : DataW.trod enc Try.prog W 0 (fun _ => true) true n 2 (([c0, c1, c2, c3, c4, c5, c6].drop 1).take (Try.prog.cellsOf 2)) = xs[1]? := hf 1 _ rfl
  have e2 : DataW.trod enc Try.prog W 0 (fun _ => true) true n 3 (([c0, c1, c2, c3, c4, c5, c6].drop 2).take (Try.prog.cellsOf 3)) = xs[2]? := hf 2 _ rfl
  have e3 : DataW.trod enc Try.prog W 0 (fun _ => true) true n 23 (([c0, c1, c2, c3, c4, c5, c6].drop 3).take (Try.prog.cellsOf 23)) = xs[3]? := hf 3 _ rfl
  have e4 : DataW.trod enc Try.prog W 0 (fun _ => true) true n 24 (([c0, c1, c2, c3, c4, c5, c6].drop 5).take (Try.prog.cellsOf 24)) = xs[4]? := hf 4 _ rfl
  have e5 : DataW.trod enc Try.prog W 0 (fun _ => true) true n 25 (([c0, c1, c2, c3, c4, c5, c6].drop 6).take (Try.prog.cellsOf 25)) = xs[5]? := hf 5 _ rfl
  obtain ⟨y0, q0⟩ := e 0 (by omega)
  obtain ⟨y1, q1⟩ := e 1 (by omega)
  obtain ⟨y2, q2⟩ := e 2 (by omega)
  obtain ⟨y3, q3⟩ := e 3 (by omega)
  obtain ⟨y4, q4⟩ := e 4 (by omega)
  obtain ⟨y5, q5⟩ := e 5 (by omega)
  rw [q0, one2] at e0
  rw [q1, one2] at e1
  rw [q2, one3] at e2
  rw [q3, range23.size] at e3
  rw [q4, one24] at e4
  rw [q5, one25] at e5
  obtain ⟨z0, g0, _⟩ := DataW.trod_int Try.underlying2 e0
  obtain ⟨z1, g1, _⟩ := DataW.trod_int Try.underlying2 e1
  obtain ⟨z2, g2, _⟩ := DataW.trod_int Try.underlying3 e2
  obtain ⟨z3, z4, g3⟩ := open_pair2 range23 e3
  have g0 : [c0] = [Value.int .i64 z0] := g0
  have g1 : [c1] = [Value.int .i64 z1] := g1
  have g2 : [c2] = [Value.int .i64 z2] := g2
  have g3 : [c3, c4] = [Value.int .i64 z3, .int .i64 z4] := g3
  cases g0; cases g1; cases g2; cases g3
  obtain ⟨u5, hu5, k5⟩ := hcell 5 c5 rfl
  obtain ⟨u6, hu6, k6⟩ := hcell 6 c6 rfl
  cases hu5; cases hu6
  obtain ⟨sales, s1, s2⟩ := slcAt_pairs Try.underlying24 range23 (show DataW.trod enc Try.prog W 0 (fun _ => true) true n 24 [c5] = some y4 from e4) k5
  obtain ⟨costs, t1, t2⟩ := slcAt_ints Try.underlying25 Try.underlying2 one2 (show DataW.trod enc Try.prog W 0 (fun _ => true) true n 25 [c6] = some y5 from e5) k6
  exact ⟨⟨z0, z1, z2, z3, z4, sales, costs⟩, c5, c6, rfl, s1, t1, s2, t2⟩
theorem slice_open {H' : Type} {enc : TypeId × Value → H'} {W : World} {base : Nat} {v : Value} {d : DataW H'} {p : List MemPlace} {t e : TypeId} (ht : Try.prog.underlying t = some (.slice e)) (he : Try.prog.underlying e = some (.int .i64)) (hc : Try.prog.cellsOf e = 1)
    (hval : Value.okWide Try.prog W .any base t v) (h : DataW.Trod enc Try.prog W 0 (fun _ => true) true t v d p) : ∃ xs : List Int, SlcAt W v xs.length (xs.map (.int .i64)) ∧ xs.length ≤ maxLen := by
  obtain ⟨a, l, c, rfl⟩ := Go.WideShapes.okWide_slice ht hval
  simp only [Value.okWide, ht] at hval
  obtain ⟨fuel, h⟩ := h
  exact slcAt_ints ht he hc (show DataW.trod enc Try.prog W 0 (fun _ => true) true fuel t [.slice a l c] = some (d, p) from h) hval
/-- the kind's value is laid -/
theorem kind_rel {ι : Io} {k : K} {sv cv : AV} {sv' cv' : Value} (hs : RelV ι sv sv') (hc : RelV ι cv cv') (h1 : sv.scalar = true) (h2 : cv.scalar = true) :
    RelV ι (.agg (kl k sv cv)) (.agg #[.int .i64 k.cap, .int .i64 k.load, .int .i64 k.most, .int .i64 k.slo, .int .i64 k.shi, sv', cv']) := by
  have hL : RelL ι (kl k sv cv) [.int .i64 k.cap, .int .i64 k.load, .int .i64 k.most, .int .i64 k.slo, .int .i64 k.shi, sv', cv'] :=
    .cons (.int _ _) (.cons (.int _ _) (.cons (.int _ _) (.cons (.int _ _) (.cons (.int _ _) (.cons hs (.cons hc .nil))))))
  refine .agg rfl ?_ (fun i a v ha hv => hL.2 i a v ha (by simpa using hv))
  intro a ha
  simp only [kl, List.mem_cons, List.not_mem_nil, or_false] at ha
  rcases ha with rfl | rfl | rfl | rfl | rfl | rfl | rfl <;> first | rfl | assumption
/-- a kind as an argument -/
theorem kind_givenS {W : World} {k : K} {sv' cv' : Value} (hs : SlcAt W sv' k.sales.length (flat k.sales)) (hc : SlcAt W cv' k.costs.length (k.costs.map (.int .i64))) (l1 : k.sales.length ≤ maxLen) (l2 : k.costs.length ≤ maxLen) :
    ∃ ι h F sv cv, GivenF Try.prog ι h W F ∧ KVal F k sv cv ∧ RelV ι (.agg (kl k sv cv)) (.agg #[.int .i64 k.cap, .int .i64 k.load, .int .i64 k.most, .int .i64 k.slo, .int .i64 k.shi, sv', cv']) ∧ Sl 2 sv ∧ Sl 1 cv := by
  obtain ⟨ι1, h1, F1, sv, a1, _, _, b1, c1, d1, e1⟩ := (GivenF.none Try.prog W).pairsS hs
  obtain ⟨ι2, h2, F2, cv, a2, s2, x2, b2, c2, d2, e2⟩ := a1.intsS hc
  exact ⟨ι2, h2, F2, sv, cv, a2, ⟨d1.mono s2, d2, maxLen_lt l1, maxLen_lt l2⟩, kind_rel (b1.ext x2) b2 c1 c2, e1 2, e2 1⟩
theorem kind_given {W : World} {k : K} {sv' cv' : Value} (hs : SlcAt W sv' k.sales.length (flat k.sales)) (hc : SlcAt W cv' k.costs.length (k.costs.map (.int .i64))) (l1 : k.sales.length ≤ maxLen) (l2 : k.costs.length ≤ maxLen) :
    ∃ ι h F sv cv, GivenF Try.prog ι h W F ∧ KVal F k sv cv ∧ RelV ι (.agg (kl k sv cv)) (.agg #[.int .i64 k.cap, .int .i64 k.load, .int .i64 k.most, .int .i64 k.slo, .int .i64 k.shi, sv', cv']) := by
  obtain ⟨ι, h, F, sv, cv, a, b, c, _⟩ := kind_givenS hs hc l1 l2
  exact ⟨ι, h, F, sv, cv, a, b, c⟩
end Go.Ax
