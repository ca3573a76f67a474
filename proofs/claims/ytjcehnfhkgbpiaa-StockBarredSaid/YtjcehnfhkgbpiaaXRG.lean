/-
  Flows and nets out of what was read.
-/
import Derived.Test.YtjcehnfhkgbpiaaXHI
import Derived.Test.YtjcehnfhkgbpiaaXNX
open Go.RowKit Go.ChangeShapes Go.Proofs
namespace Go.Ax
set_option maxHeartbeats 1000000
set_option maxRecDepth 100000
theorem one22 : Try.prog.cellsOf 22 = 1 := by kernel_rfl
theorem cells62 : Try.prog.cellsOf 62 = 4 := by kernel_rfl
theorem cells24 : Try.prog.cellsOf 24 = 2 := by kernel_rfl
theorem cellTypes24 : Try.prog.cellTypes Try.prog.depth 24 = some [3, 22] := by kernel_rfl
def flV (u : Fl) : List Value := [.int .i64 u.f, .int .i64 u.t, .int .i64 u.lo, .int .i64 u.hi]
theorem open_flow {H' : Type} {enc : TypeId × Value → H'} {w : World} {base : Nat} {held : Bool} {fuel : Nat} {spare : Nat → Bool} {cs : List Value} {x : DataW H' × List MemPlace} (h : DataW.trod enc Try.prog w base spare held fuel 62 cs = some x) : ∃ u : Fl, cs = flV u := by
  obtain ⟨xs, n, _, _, hl, hxs, hf⟩ := DataW.trod_struct Try.underlying62 h
  rw [cells62] at hl
  obtain ⟨a, b, c, d, rfl⟩ : ∃ a b c d, cs = [a, b, c, d] := by
    match cs, hl with
    | [a, b, c, d], _ => exact ⟨a, b, c, d, rfl⟩
  have hx : xs.length = 3 := hxs
  have e1 : DataW.trod enc Try.prog w base spare held n 3 (([a, b, c, d].drop 0).take (Try.prog.cellsOf 3)) = xs[0]? := hf 0 _ rfl
  have e2 : DataW.trod enc Try.prog w base spare held n 3 (([a, b, c, d].drop 1).take (Try.prog.cellsOf 3)) = xs[1]? := hf 1 _ rfl
  have e3 : DataW.trod enc Try.prog w base spare held n 40 (([a, b, c, d].drop 2).take (Try.prog.cellsOf 40)) = xs[2]? := hf 2 _ rfl
  rw [List.getElem?_eq_getElem (by omega)] at e1 e2 e3
  rw [one3] at e1 e2
  rw [range40.size] at e3
  obtain ⟨z1, g1, _⟩ := DataW.trod_int Try.underlying3 e1
  obtain ⟨z2, g2, _⟩ := DataW.trod_int Try.underlying3 e2
  obtain ⟨z3, z4, g3⟩ := open_pair2 range40 e3
  have g1 : [a] = [Value.int .i64 z1] := g1
  have g2 : [b] = [Value.int .i64 z2] := g2
  have g3 : [c, d] = [Value.int .i64 z3, .int .i64 z4] := g3
  cases g1; cases g2; cases g3
  exact ⟨⟨z1, z2, z3, z4⟩, rfl⟩
theorem relC_flows : ∀ (fs : List Fl) (ι : Io), RelC ι (cellsZ flc fs) (fs.flatMap flV)
  | [], ι => ⟨.nil, fun a h => by cases h⟩
  | u :: fs, ι => by
    obtain ⟨h1, h2⟩ := relC_flows fs ι
    refine ⟨.cons (.int _ _) (.cons (.int _ _) (.cons (.int _ _) (.cons (.int _ _) h1))), fun a ha => ?_⟩
    have ha : a ∈ flc u ++ cellsZ flc fs := ha
    rcases List.mem_append.1 ha with ha | ha
    · simp only [List.mem_cons, List.not_mem_nil, or_false] at ha
      rcases ha with rfl | rfl | rfl | rfl <;> rfl
    · exact h2 a ha
theorem flowV_get : ∀ (fs : List Fl) (i : Nat) (v : Value), (fs.flatMap flV)[i]? = some v → ∃ j c, j < fs.length ∧ c < 4 ∧ i = j * 4 + c ∧ (flV (fs.getD j default))[c]? = some v
  | [], i, v, h => by simp at h
  | u :: fs, 0, v, h => ⟨0, 0, by simp, by omega, rfl, by simpa [flV] using h⟩
  | u :: fs, 1, v, h => ⟨0, 1, by simp, by omega, rfl, by simpa [flV] using h⟩
  | u :: fs, 2, v, h => ⟨0, 2, by simp, by omega, rfl, by simpa [flV] using h⟩
  | u :: fs, 3, v, h => ⟨0, 3, by simp, by omega, rfl, by simpa [flV] using h⟩
  | u :: fs, i + 4, v, h => by
    obtain ⟨j, c, hj, hc, e, hv⟩ := flowV_get fs i v (by simpa [flV] using h)
    exact ⟨j + 1, c, by simpa using hj, hc, by omega, by simpa using hv⟩
theorem slcAt_flows {H' : Type} {enc : TypeId × Value → H'} {w : World} {base : Nat} {held : Bool} {fuel : Nat} {r : Reach} {v : Value} {x : DataW H' × List MemPlace}
    (h : DataW.trod enc Try.prog w base (fun _ => true) held fuel 22 [v] = some x) {b2 : Nat} (hval : Cell.okWide Try.prog w r b2 22 v) : ∃ fs : List Fl, SlcAt w v fs.length (cellsZ flc fs) ∧ fs.length ≤ maxLen := by
  rcases DataW.trod_slice Try.underlying22 h with ⟨hcs, _⟩ | ⟨a, len, cap, elems, rest, n, _, hcs, _, hb, hl, hm, hlen, hel, hsp, _⟩
  · simp only [List.cons.injEq, and_true] at hcs
    exact ⟨[], .nil hcs rfl, Nat.zero_le _⟩
  · simp only [List.cons.injEq, and_true] at hcs
    subst hcs
    obtain ⟨B, o, arr, ty, fz, rfl, hg⟩ := slc_heap Try.underlying22 hval
    obtain ⟨hrl, hr⟩ := hsp rfl
    have each : ∀ i, i < cap → ∃ u : Fl, ∀ c, c < 4 → arr[o + i * 4 + c]? = (flV u)[c]? := by
      intro i hi
      have hy : ∃ y, (w.cells? base ((⟨B, o, Option.none⟩ : Addr).add (i * Try.prog.cellsOf 62)) (Try.prog.cellsOf 62)).bind (DataW.trod enc Try.prog w base (fun _ => true) held n 62) = some y := by
        by_cases h1 : i < len
        · exact ⟨elems[i]'(by omega), by rw [hel i h1, List.getElem?_eq_getElem (by omega)]⟩
        · have := hr (i - len) (by omega)
          rw [show len + (i - len) = i by omega] at this
          exact ⟨rest[i - len]'(by omega), by rw [this, List.getElem?_eq_getElem (by omega)]⟩
      obtain ⟨y, hy⟩ := hy
      rw [cells62, Option.bind_eq_some_iff] at hy
      obtain ⟨cs', hcs, hy'⟩ := hy
      obtain ⟨u, rfl⟩ := open_flow hy'
      obtain ⟨_, _, hc⟩ := World.cells?_some hcs
      have e1 : (⟨B, o, Option.none⟩ : Addr).add (i * 4) = ⟨B, o + i * 4, Option.none⟩ := by unfold Addr.add; split <;> simp_all
      rw [e1] at hc
      refine ⟨u, fun c hc4 => ?_⟩
      have h := hc c hc4
      have hl4 : (flV u).length = 4 := rfl
      rw [List.getElem?_eq_getElem (by omega)] at h ⊢
      exact cell_arr hg h
    obtain ⟨f, hf⟩ : ∃ f : Nat → Fl, ∀ i, i < cap → ∀ c, c < 4 → arr[o + i * 4 + c]? = (flV (f i))[c]? :=
      ⟨fun i => if hi : i < cap then Classical.choose (each i hi) else default, fun i hi => by simp only [hi, dite_true]; exact Classical.choose_spec (each i hi)⟩
    have hlen : ((List.range len).map f).length = len := by simp
    refine ⟨(List.range len).map f, ?_, by omega⟩
    have hget : ∀ j, j < len → ((List.range len).map f).getD j default = f j := fun j hj => by simp [List.getD, hj]
    rw [hlen]
    refine .row rfl hl hg ?_ ?_
    · by_cases h0 : cap = 0
      · refine .inl ⟨h0, ?_⟩
        have : len = 0 := by omega
        subst this; rfl
      · have h3 := hf (cap - 1) (by omega) 3 (by omega)
        have h4 : (flV (f (cap - 1)))[3]? = some (Value.int .i64 (f (cap - 1)).hi) := rfl
        rw [h4] at h3
        have := (Array.getElem?_eq_some_iff.1 h3).1
        rw [cellsZ_len (f := flc) (n := 4) (fun _ => rfl), hlen]
        exact .inr (by omega)
    · refine relC_of (vs := ((List.range len).map f).flatMap flV) (relC_flows _ (fun _ => Option.none)).1.1 ?_ (relC_flows _)
      intro i v hv
      obtain ⟨j, c, hj, hc, rfl, hv2⟩ := flowV_get _ _ _ hv
      rw [hlen] at hj
      rw [hget j hj] at hv2
      rw [← hv2, ← hf j (by omega) c hc]
      congr 1; omega
theorem GivenF.flows {P : Program} {w : World} {ι : Io} {h : H} {F : Hp} (G : GivenF P ι h w F) {v : Value} {fs : List Fl} (hv : SlcAt w v fs.length (cellsZ flc fs)) :
    ∃ ι' h' F' av, GivenF P ι' h' w F' ∧ F ⊆ F' ∧ Ext ι ι' ∧ RelV ι' av v ∧ av.scalar = true ∧ FRow F' av fs ∧ ∀ sz, Sl sz av := by
  obtain ⟨ι', h', F', av, a, b, c, d, p, cap, ex, rfl, hcap, hr⟩ := G.slcS hv
  refine ⟨ι', h', F', _, a, b, c, d, rfl, ⟨p, cap, ex, 0, rfl, fun j u hj => ?_⟩, fun _ => ⟨_, _, _, _, _, rfl, .inl rfl, hcap⟩⟩
  have hjl : j < fs.length := (List.getElem?_eq_some_iff.1 hj).1
  obtain ⟨bk, rfl, hm⟩ := hr (by omega)
  refine ⟨bk, 0, _, _, rfl, hm, ?_, ?_⟩
  · rw [cellsZ_len (f := flc) (n := 4) (fun _ => rfl)]; omega
  · rw [Nat.zero_add]; exact cellsZ_seg (f := flc) (n := 4) (fun _ => rfl) fs j u hj
theorem net_open {H' : Type} {enc : TypeId × Value → H'} {W : World} {base : Nat} {v : Value} {d : DataW H'} {p : List MemPlace} (hval : Value.okWide Try.prog W .any base 24 v)
    (h : DataW.Trod enc Try.prog W 0 (fun _ => true) true 24 v d p) : ∃ (T : Int) (sv : Value) (fs : List Fl), v = .agg #[.int .i64 T, sv] ∧ SlcAt W sv fs.length (cellsZ flc fs) ∧ fs.length ≤ maxLen := by
  simp only [Value.okWide, Try.underlying24] at hval
  obtain ⟨cs, rfl, hsz, ts, hts, _, hcell⟩ := hval
  rw [cellTypes24] at hts
  cases hts
  rw [cells24] at hsz
  obtain ⟨fuel, h⟩ := h
  obtain ⟨xs, n, _, _, _, hxs, hf⟩ := DataW.trod_struct Try.underlying24 h
  have hxs : xs.length = 2 := hxs
  obtain ⟨c0, c1, rfl⟩ : ∃ c0 c1, cs = #[c0, c1] := by
    obtain ⟨l⟩ := cs
    have hl : l.length = 2 := hsz
    match l, hl with
    | [c0, c1], _ => exact ⟨c0, c1, rfl⟩
  have e0 : DataW.trod enc Try.prog W 0 (fun _ => true) true n 3 (([c0, c1].drop 0).take (Try.prog.cellsOf 3)) = xs[0]? := hf 0 _ rfl
  have e1 : DataW.trod enc Try.prog W 0 (fun _ => true) true n 22 (([c0, c1].drop 1).take (Try.prog.cellsOf 22)) = xs[1]? := hf 1 _ rfl
  rw [List.getElem?_eq_getElem (by omega)] at e0 e1
  rw [one3] at e0
  rw [one22] at e1
  obtain ⟨z0, g0, _⟩ := DataW.trod_int Try.underlying3 e0
  have g0 : [c0] = [Value.int .i64 z0] := g0
  cases g0
  obtain ⟨u1, hu1, k1⟩ := hcell 1 c1 rfl
  cases hu1
  obtain ⟨fs, s1, s2⟩ := slcAt_flows (show DataW.trod enc Try.prog W 0 (fun _ => true) true n 22 [c1] = _ from e1) k1
  exact ⟨z0, c1, fs, rfl, s1, s2⟩
theorem net_rel {ι : Io} {T : Int} {v : AV} {v' : Value} (hv : RelV ι v v') (h1 : v.scalar = true) : RelV ι (.agg [.int .i64 T, v]) (.agg #[.int .i64 T, v']) := by
  have hL : RelL ι [AV.int .i64 T, v] [.int .i64 T, v'] := .cons (.int _ _) (.cons hv .nil)
  refine .agg rfl ?_ (fun i a v ha hv => hL.2 i a v ha (by simpa using hv))
  intro a ha
  simp only [List.mem_cons, List.not_mem_nil, or_false] at ha
  rcases ha with rfl | rfl
  · rfl
  · exact h1
end Go.Ax
