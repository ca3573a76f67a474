/-
  Four numbers of u32 in a row of their own, out of what was read.
-/
import Derived.Test.YtmhbmnonichopaaXG3
open Go.RowKit Go.ChangeShapes Go.Proofs
namespace Go.Ax
set_option maxHeartbeats 1000000
set_option maxRecDepth 100000
theorem one58 : Try.prog.cellsOf 58 = 1 := by kernel_rfl
theorem cells61 : Try.prog.cellsOf 61 = 4 := by kernel_rfl
theorem four_open {H' : Type} {enc : TypeId × Value → H'} {W : World} {base : Nat} {v : Value} {d : DataW H'} {p : List MemPlace} (hval : Value.okWide Try.prog W .any base 61 v)
    (h : DataW.Trod enc Try.prog W 0 (fun _ => true) true 61 v d p) :
    ∃ l0 l1 l2 l3 : Int, v = .agg #[.int .u32 l0, .int .u32 l1, .int .u32 l2, .int .u32 l3] ∧ (0 ≤ l0 ∧ l0 ≤ 4294967295) ∧ (0 ≤ l1 ∧ l1 ≤ 4294967295) ∧ (0 ≤ l2 ∧ l2 ≤ 4294967295) ∧ (0 ≤ l3 ∧ l3 ≤ 4294967295) := by
  simp only [Value.okWide, Try.underlying61] at hval
  obtain ⟨cs, rfl, hsz, _⟩ := hval
  rw [cells61] at hsz
  obtain ⟨fuel, h⟩ := h
  obtain ⟨xs, n, _, _, _, hxs, hf⟩ := DataW.trod_array Try.underlying61 h
  have hxs : xs.length = 4 := hxs
  obtain ⟨c0, c1, c2, c3, rfl⟩ : ∃ c0 c1 c2 c3, cs = #[c0, c1, c2, c3] := by
    obtain ⟨l⟩ := cs
    have hl : l.length = 4 := hsz
    match l, hl with
    | [c0, c1, c2, c3], _ => exact ⟨c0, c1, c2, c3, rfl⟩
  have e : ∀ i, i < 4 → ∃ y, xs[i]? = some y := fun i hi => ⟨_, List.getElem?_eq_getElem (by omega)⟩
  have e0 : DataW.trod enc Try.prog W 0 (fun _ => true) true n 58 (([c0, c1, c2, c3].drop (0 * Try.prog.cellsOf 58)).take (Try.prog.cellsOf 58)) = xs[0]? := hf 0 (by decide)
  have e1 : DataW.trod enc Try.prog W 0 (fun _ => true) true n 58 (([c0, c1, c2, c3].drop (1 * Try.prog.cellsOf 58)).take (Try.prog.cellsOf 58)) = xs[1]? := hf 1 (by decide)
  have e2 : DataW.trod enc Try.prog W 0 (fun _ => true) true n 58 (([c0, c1, c2, c3].drop (2 * Try.prog.cellsOf 58)).take (Try.prog.cellsOf 58)) = xs[2]? := hf 2 (by decide)
  have e3 : DataW.trod enc Try.prog W 0 (fun _ => true) true n 58 (([c0, c1, c2, c3].drop (3 * Try.prog.cellsOf 58)).take (Try.prog.cellsOf 58)) = xs[3]? := hf 3 (by decide)
  obtain ⟨y0, q0⟩ := e 0 (by omega)
  obtain ⟨y1, q1⟩ := e 1 (by omega)
  obtain ⟨y2, q2⟩ := e 2 (by omega)
  obtain ⟨y3, q3⟩ := e 3 (by omega)
  rw [q0, one58] at e0
  rw [q1, one58] at e1
  rw [q2, one58] at e2
  rw [q3, one58] at e3
  obtain ⟨z0, g0, _, w0⟩ := DataW.trod_int Try.underlying58 e0
  obtain ⟨z1, g1, _, w1⟩ := DataW.trod_int Try.underlying58 e1
  obtain ⟨z2, g2, _, w2⟩ := DataW.trod_int Try.underlying58 e2
  obtain ⟨z3, g3, _, w3⟩ := DataW.trod_int Try.underlying58 e3
  have g0 : [c0] = [Value.int .u32 z0] := g0
  have g1 : [c1] = [Value.int .u32 z1] := g1
  have g2 : [c2] = [Value.int .u32 z2] := g2
  have g3 : [c3] = [Value.int .u32 z3] := g3
  cases g0; cases g1; cases g2; cases g3
  exact ⟨z0, z1, z2, z3, rfl, u32_wf w0, u32_wf w1, u32_wf w2, u32_wf w3⟩
theorem four_rel {ι : Io} {l0 l1 l2 l3 : Int} : RelV ι (.agg [.int .u32 l0, .int .u32 l1, .int .u32 l2, .int .u32 l3]) (.agg #[.int .u32 l0, .int .u32 l1, .int .u32 l2, .int .u32 l3]) := by
  have hL : RelL ι [.int .u32 l0, .int .u32 l1, .int .u32 l2, .int .u32 l3] [.int .u32 l0, .int .u32 l1, .int .u32 l2, .int .u32 l3] :=
    .cons (.int _ _) (.cons (.int _ _) (.cons (.int _ _) (.cons (.int _ _) .nil)))
  refine .agg rfl ?_ (fun i a v ha hv => hL.2 i a v ha (by simpa using hv))
  intro a ha
  simp only [List.mem_cons, List.not_mem_nil, or_false] at ha
  rcases ha with rfl | rfl | rfl | rfl <;> rfl
end Go.Ax
