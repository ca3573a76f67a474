/-
  Rows of numbers of any kind, and two numbers, out of what was read: with their range.
-/
import Derived.Test.YtjcehnfhkgbpiaaXHG
import Derived.Test.YtjcehnfhkgbpiaaXMX
open Go.RowKit Go.ChangeShapes Go.Proofs
namespace Go.Ax
set_option maxHeartbeats 1000000
set_option maxRecDepth 100000
section
variable {P : Program} {w : World} {H' : Type} {enc : TypeId × Value → H'} {base : Nat} {held : Bool} {fuel : Nat}
theorem slcAt_nums {r : Reach} {t e : TypeId} {k : IntKind} {v : Value} {x : DataW H' × List MemPlace} (ht : P.underlying t = some (.slice e)) (he : P.underlying e = some (.int k)) (hc : P.cellsOf e = 1)
    (h : DataW.trod enc P w base (fun _ => true) held fuel t [v] = some x) {b2 : Nat} (hval : Cell.okWide P w r b2 t v) : ∃ xs : List Int, SlcAt w v xs.length (xs.map (.int k)) ∧ xs.length ≤ maxLen ∧ ∀ n ∈ xs, (Lit.int k n).wf = true := by
  rcases open_ints ht he hc h with ⟨hcs, _⟩ | ⟨a, len, cap, zs, hcs, _, hl, hm, hz, _, hcell, hwf⟩
  · simp only [List.cons.injEq, and_true] at hcs
    exact ⟨[], .nil hcs rfl, Nat.zero_le _, fun n hn => by cases hn⟩
  · simp only [List.cons.injEq, and_true] at hcs
    subst hcs
    obtain ⟨B, o, arr, ty, fz, rfl, hg⟩ := slc_heap ht hval
    simp only [if_true] at hz
    have hlen : (zs.take len).length = len := by rw [List.length_take]; omega
    have harr : ∀ i, i < cap → arr[o + i]? = some (.int k (zs.getD i 0)) := fun i hi => cell_arr hg (hcell i (by omega))
    refine ⟨zs.take len, ?_, by omega, fun n hn => hwf n (List.mem_of_mem_take hn)⟩
    rw [hlen]
    refine .row rfl hl hg ?_ ?_
    · by_cases h0 : cap = 0
      · refine .inl ⟨h0, ?_⟩
        have : len = 0 := by omega
        subst this; rfl
      · have := (Array.getElem?_eq_some_iff.1 (harr (cap - 1) (by omega))).1
        rw [List.length_map, hlen]
        exact .inr (by omega)
    · refine relC_of (vs := (zs.take len).map (.int k)) (by simp) ?_ (relC_ints k _)
      intro i v hv
      rw [List.getElem?_map] at hv
      have hi : i < len := by
        rcases Nat.lt_or_ge i len with h | h
        · exact h
        · rw [List.getElem?_eq_none (by omega)] at hv; cases hv
      rw [harr i (by omega)]
      rw [List.getElem?_take, if_pos hi, List.getElem?_eq_getElem (by omega)] at hv
      rw [← hv, List.getD, List.getElem?_eq_getElem (by omega)]
      rfl
end
theorem GivenF.nums {P : Program} {w : World} {ι : Io} {h : H} {F : Hp} (G : GivenF P ι h w F) {v : Value} {kd : IntKind} {xs : List Int} (hv : SlcAt w v xs.length (xs.map (.int kd))) :
    ∃ ι' h' F' av, GivenF P ι' h' w F' ∧ F ⊆ F' ∧ Ext ι ι' ∧ RelV ι' av v ∧ av.scalar = true ∧ RowZ (Go.Ax.nums kd) 1 F' av xs := by
  obtain ⟨ι', h', F', av, a, b, c, d, p, cap, ex, es, rfl, hr⟩ := G.slc hv
  refine ⟨ι', h', F', _, a, b, c, d, rfl, p, cap, ex, es, rfl, fun j u hj => ?_⟩
  have hjl : j < xs.length := (List.getElem?_eq_some_iff.1 hj).1
  obtain ⟨bk, rfl, hm⟩ := hr (by omega)
  refine ⟨bk, 0, _, _, rfl, hm, by simp; omega, ?_⟩
  refine List.ext_getElem? fun i => ?_
  rw [List.getElem?_take]
  cases i with
  | zero => simp [hj]
  | succ i => simp
theorem u8_wf {n : Int} (h : (Lit.int .u8 n).wf = true) : 0 ≤ n ∧ n ≤ 255 := by
  simp [Lit.wf] at h
  have h1 : IntKind.u8.min = 0 := rfl
  have h2 : IntKind.u8.max = 255 := rfl
  omega
theorem u32_wf {n : Int} (h : (Lit.int .u32 n).wf = true) : 0 ≤ n ∧ n ≤ 4294967295 := by
  simp [Lit.wf] at h
  have h1 : IntKind.u32.min = 0 := rfl
  have h2 : IntKind.u32.max = 4294967295 := rfl
  omega
theorem nums_nn {u : Int} (hu : 0 ≤ u) {xs : List Int} (h : ∀ n ∈ xs, 0 ≤ n ∧ n ≤ u) (j : Nat) : 0 ≤ xs.getD j default ∧ xs.getD j default ≤ u := by
  by_cases hj : j < xs.length
  · have : xs.getD j default = xs[j] := by simp [List.getD, List.getElem?_eq_getElem hj]
    rw [this]
    exact h _ (List.getElem_mem hj)
  · have : xs.getD j default = (default : Int) := by simp [List.getD, List.getElem?_eq_none (by omega : xs.length ≤ j)]
    rw [this]
    exact ⟨Int.le_refl _, hu⟩
theorem nums_open {H' : Type} {enc : TypeId × Value → H'} {W : World} {base : Nat} {v : Value} {d : DataW H'} {p : List MemPlace} {t e : TypeId} {kd : IntKind} {u : Int} (hu : 0 ≤ u) (hw : ∀ n, (Lit.int kd n).wf = true → 0 ≤ n ∧ n ≤ u) (ht : Try.prog.underlying t = some (.slice e)) (he : Try.prog.underlying e = some (.int kd)) (hc : Try.prog.cellsOf e = 1)
    (hval : Value.okWide Try.prog W .any base t v) (h : DataW.Trod enc Try.prog W 0 (fun _ => true) true t v d p) : ∃ xs : List Int, SlcAt W v xs.length (xs.map (.int kd)) ∧ xs.length ≤ maxLen ∧ ∀ j, 0 ≤ xs.getD j default ∧ xs.getD j default ≤ u := by
  obtain ⟨a, l, c, rfl⟩ := Go.WideShapes.okWide_slice ht hval
  simp only [Value.okWide, ht] at hval
  obtain ⟨fuel, h⟩ := h
  obtain ⟨xs, h1, h2, h3⟩ := slcAt_nums ht he hc (show DataW.trod enc Try.prog W 0 (fun _ => true) true fuel t [.slice a l c] = some (d, p) from h) hval
  exact ⟨xs, h1, h2, nums_nn hu fun n hn => hw n (h3 n hn)⟩
theorem one3 : Try.prog.cellsOf 3 = 1 := by kernel_rfl
theorem one64 : Try.prog.cellsOf 64 = 1 := by kernel_rfl
end Go.Ax
