/-
  Contracts: rows compared; what a plan costs.
-/
import Derived.Test.YtmhbmnonichopaaXO6
namespace Go.Ax
set_option maxHeartbeats 4000000
set_option linter.unusedSimpArgs false
set_option linter.unusedVariables false
variable {lo : Nat} {F : Hp}

theorem list_ext {α : Type} {z : α} {xs ys : List α} (hl : xs.length = ys.length) (h : ∀ j, j < xs.length → xs.getD j z = ys.getD j z) : xs = ys := by
  refine List.ext_getElem hl fun j h1 h2 => ?_
  have := h j h1
  simpa [List.getD, List.getElem?_eq_getElem h1, List.getElem?_eq_getElem h2] using this
theorem f22_ok {xs ys : List (Int × Int)} {u v : AV} (hu : RowR F u xs) (hv : RowR F v ys) (hl : xs.length ≤ 9223372036854775807) (eq : Bool) (he : eq = true ↔ xs = ys) : Pure tblW (fnv 22) [u, v] F (.bool eq) := by
  intro lo
  refine Fn.func (fn := af22) rfl rfl ?_
  (repeat' (first | (first | refine Wo.nil ?_ | refine Wd.nil ?_ | ((first | refine Wo.cons ?_ | refine Wd.cons ?_); (try refine W1.go rfl rfl ?_); ((first | refine W1.skip rfl rfl ?_ | refine W1.skip2 rfl ?_ | refine W1.auto ?_ | refine W1.lss rfl rfl (fun _ => ?_) (fun _ => ?_) | refine W1.gtr rfl rfl (fun _ => ?_) (fun _ => ?_) | refine W1.leq rfl rfl (fun _ => ?_) (fun _ => ?_) | refine W1.geq rfl rfl (fun _ => ?_) (fun _ => ?_) | refine W1.eql rfl rfl (fun _ => ?_) (fun _ => ?_) | refine W1.neq rfl rfl (fun _ => ?_) (fun _ => ?_) | refine W1.neq2 rfl rfl (fun _ => ?_) (fun _ => ?_) | refine W1.alloc (fun _ _ => ?_) | refine W1.boxA rfl (fun _ _ => ?_) | (refine isBinQuo ?_; first | refine W1.quoN rfl rfl (by omega) (by omega) (fun _ _ => ?_) | refine W1.quo rfl rfl (by omega) (by omega) ?_) | (refine isIaddrs ?_; first | refine W1.iaddrI inI rfl rfl (by omega) (fun _ _ _ _ _ _ => ?_) | refine W1.iaddrR inR rfl rfl (by omega) (fun _ _ _ _ _ _ _ => ?_)) | (refine isBox ?_; refine W1.boxS inW (by rfl) (fun _ _ => ?_)) | (refine isBslice ?_; refine W1.bslice (fill_all inC rfl) (fun _ _ => ?_))) <;> (try refine ⟨fun _ => rfl, ?_⟩)))) | (first | refine Ws.seq ?_ | refine Ws.region ?_ | refine Ws.draw (fun bd hbd => ?_) | refine Ws.cond rfl ?_ | refine Ws.skip ?_ | refine Ws.scope ?_ | refine Ws.block ?_ | refine Ws.exit ?_ | refine Ws.ret ?_)))
  · (refine FnEnd.ret (F' := F) (vs := [_]) (by (first | refine ResF.tmp inW ?_ | refine ResF.cell rfl inF inP ?_); exact ResF.nil) inS ⟨?_, rfl⟩)
    show AV.bool _ = _
    cases eq
    · rfl
    · have := he.1 rfl
      subst this
      omega
  refine Ws.loopG (X := Nat) (fun i => [(0, u), (1, v), (5, .int .i64 (i : Nat))]) (fun _ => F) (fun i => i ≤ xs.length ∧ ∀ j, j < i → xs.getD j (0, 0) = ys.getD j (0, 0)) (fun i => xs.length - i) 0
    ⟨rfl, rfl, rfl, trivial⟩ inS ⟨Nat.zero_le _, fun j hj => absurd hj (Nat.not_lt_zero j)⟩ ?_
  rintro i B ⟨hi, hb⟩
  (repeat' (first | (first | refine Wo.nil ?_ | refine Wd.nil ?_ | ((first | refine Wo.cons ?_ | refine Wd.cons ?_); (try refine W1.go rfl rfl ?_); ((first | refine W1.skip rfl rfl ?_ | refine W1.skip2 rfl ?_ | refine W1.auto ?_ | refine W1.lss rfl rfl (fun _ => ?_) (fun _ => ?_) | refine W1.gtr rfl rfl (fun _ => ?_) (fun _ => ?_) | refine W1.leq rfl rfl (fun _ => ?_) (fun _ => ?_) | refine W1.geq rfl rfl (fun _ => ?_) (fun _ => ?_) | refine W1.eql rfl rfl (fun _ => ?_) (fun _ => ?_) | refine W1.neq rfl rfl (fun _ => ?_) (fun _ => ?_) | refine W1.neq2 rfl rfl (fun _ => ?_) (fun _ => ?_) | refine W1.alloc (fun _ _ => ?_) | refine W1.boxA rfl (fun _ _ => ?_) | (refine isBinQuo ?_; first | refine W1.quoN rfl rfl (by omega) (by omega) (fun _ _ => ?_) | refine W1.quo rfl rfl (by omega) (by omega) ?_) | (refine isIaddrs ?_; first | refine W1.iaddrI inI rfl rfl (by omega) (fun _ _ _ _ _ _ => ?_) | refine W1.iaddrR inR rfl rfl (by omega) (fun _ _ _ _ _ _ _ => ?_)) | (refine isBox ?_; refine W1.boxS inW (by rfl) (fun _ _ => ?_)) | (refine isBslice ?_; refine W1.bslice (fill_all inC rfl) (fun _ _ => ?_))) <;> (try refine ⟨fun _ => rfl, ?_⟩)))) | (first | refine Ws.seq ?_ | refine Ws.region ?_ | refine Ws.draw (fun bd hbd => ?_) | refine Ws.cond rfl ?_ | refine Ws.skip ?_ | refine Ws.scope ?_ | refine Ws.block ?_ | refine Ws.exit ?_ | refine Ws.ret ?_)))
  · (refine FnEnd.ret (F' := F) (vs := [_]) (by (first | refine ResF.tmp inW ?_ | refine ResF.cell rfl inF inP ?_); exact ResF.nil) inS ⟨?_, rfl⟩)
    show AV.bool _ = _
    cases eq
    · rfl
    · have := he.1 rfl
      subst this
      exact absurd rfl (by assumption)
  · refine ⟨i + 1, ⟨rfl, rfl, rfl, trivial⟩, inS, ⟨by omega, fun j hj => ?_⟩, by omega⟩
    rcases Nat.lt_succ_iff_lt_or_eq.1 hj with h | rfl
    · exact hb j h
    · assumption
  · (refine FnEnd.ret (F' := F) (vs := [_]) (by (first | refine ResF.tmp inW ?_ | refine ResF.cell rfl inF inP ?_); exact ResF.nil) inS ⟨?_, rfl⟩)
    show AV.bool _ = _
    rw [he.2 (list_ext (by omega) fun j hj => hb j (by omega))]
theorem f25_ok {xs ys : List Int} {u v : AV} (hu : RowI F u xs) (hv : RowI F v ys) (hl : xs.length ≤ 9223372036854775807) (eq : Bool) (he : eq = true ↔ xs = ys) : Pure tblW (fnv 25) [u, v] F (.bool eq) := by
  intro lo
  refine Fn.func (fn := af25) rfl rfl ?_
  (repeat' (first | (first | refine Wo.nil ?_ | refine Wd.nil ?_ | ((first | refine Wo.cons ?_ | refine Wd.cons ?_); (try refine W1.go rfl rfl ?_); ((first | refine W1.skip rfl rfl ?_ | refine W1.skip2 rfl ?_ | refine W1.auto ?_ | refine W1.lss rfl rfl (fun _ => ?_) (fun _ => ?_) | refine W1.gtr rfl rfl (fun _ => ?_) (fun _ => ?_) | refine W1.leq rfl rfl (fun _ => ?_) (fun _ => ?_) | refine W1.geq rfl rfl (fun _ => ?_) (fun _ => ?_) | refine W1.eql rfl rfl (fun _ => ?_) (fun _ => ?_) | refine W1.neq rfl rfl (fun _ => ?_) (fun _ => ?_) | refine W1.neq2 rfl rfl (fun _ => ?_) (fun _ => ?_) | refine W1.alloc (fun _ _ => ?_) | refine W1.boxA rfl (fun _ _ => ?_) | (refine isBinQuo ?_; first | refine W1.quoN rfl rfl (by omega) (by omega) (fun _ _ => ?_) | refine W1.quo rfl rfl (by omega) (by omega) ?_) | (refine isIaddrs ?_; first | refine W1.iaddrI inI rfl rfl (by omega) (fun _ _ _ _ _ _ => ?_) | refine W1.iaddrR inR rfl rfl (by omega) (fun _ _ _ _ _ _ _ => ?_)) | (refine isBox ?_; refine W1.boxS inW (by rfl) (fun _ _ => ?_)) | (refine isBslice ?_; refine W1.bslice (fill_all inC rfl) (fun _ _ => ?_))) <;> (try refine ⟨fun _ => rfl, ?_⟩)))) | (first | refine Ws.seq ?_ | refine Ws.region ?_ | refine Ws.draw (fun bd hbd => ?_) | refine Ws.cond rfl ?_ | refine Ws.skip ?_ | refine Ws.scope ?_ | refine Ws.block ?_ | refine Ws.exit ?_ | refine Ws.ret ?_)))
  · (refine FnEnd.ret (F' := F) (vs := [_]) (by (first | refine ResF.tmp inW ?_ | refine ResF.cell rfl inF inP ?_); exact ResF.nil) inS ⟨?_, rfl⟩)
    show AV.bool _ = _
    cases eq
    · rfl
    · have := he.1 rfl
      subst this
      omega
  refine Ws.loopG (X := Nat) (fun i => [(0, u), (1, v), (5, .int .i64 (i : Nat))]) (fun _ => F) (fun i => i ≤ xs.length ∧ ∀ j, j < i → xs.getD j 0 = ys.getD j 0) (fun i => xs.length - i) 0
    ⟨rfl, rfl, rfl, trivial⟩ inS ⟨Nat.zero_le _, fun j hj => absurd hj (Nat.not_lt_zero j)⟩ ?_
  rintro i B ⟨hi, hb⟩
  (repeat' (first | (first | refine Wo.nil ?_ | refine Wd.nil ?_ | ((first | refine Wo.cons ?_ | refine Wd.cons ?_); (try refine W1.go rfl rfl ?_); ((first | refine W1.skip rfl rfl ?_ | refine W1.skip2 rfl ?_ | refine W1.auto ?_ | refine W1.lss rfl rfl (fun _ => ?_) (fun _ => ?_) | refine W1.gtr rfl rfl (fun _ => ?_) (fun _ => ?_) | refine W1.leq rfl rfl (fun _ => ?_) (fun _ => ?_) | refine W1.geq rfl rfl (fun _ => ?_) (fun _ => ?_) | refine W1.eql rfl rfl (fun _ => ?_) (fun _ => ?_) | refine W1.neq rfl rfl (fun _ => ?_) (fun _ => ?_) | refine W1.neq2 rfl rfl (fun _ => ?_) (fun _ => ?_) | refine W1.alloc (fun _ _ => ?_) | refine W1.boxA rfl (fun _ _ => ?_) | (refine isBinQuo ?_; first | refine W1.quoN rfl rfl (by omega) (by omega) (fun _ _ => ?_) | refine W1.quo rfl rfl (by omega) (by omega) ?_) | (refine isIaddrs ?_; first | refine W1.iaddrI inI rfl rfl (by omega) (fun _ _ _ _ _ _ => ?_) | refine W1.iaddrR inR rfl rfl (by omega) (fun _ _ _ _ _ _ _ => ?_)) | (refine isBox ?_; refine W1.boxS inW (by rfl) (fun _ _ => ?_)) | (refine isBslice ?_; refine W1.bslice (fill_all inC rfl) (fun _ _ => ?_))) <;> (try refine ⟨fun _ => rfl, ?_⟩)))) | (first | refine Ws.seq ?_ | refine Ws.region ?_ | refine Ws.draw (fun bd hbd => ?_) | refine Ws.cond rfl ?_ | refine Ws.skip ?_ | refine Ws.scope ?_ | refine Ws.block ?_ | refine Ws.exit ?_ | refine Ws.ret ?_)))
  · (refine FnEnd.ret (F' := F) (vs := [_]) (by (first | refine ResF.tmp inW ?_ | refine ResF.cell rfl inF inP ?_); exact ResF.nil) inS ⟨?_, rfl⟩)
    show AV.bool _ = _
    cases eq
    · rfl
    · have := he.1 rfl
      subst this
      exact absurd rfl (by assumption)
  · refine ⟨i + 1, ⟨rfl, rfl, rfl, trivial⟩, inS, ⟨by omega, fun j hj => ?_⟩, by omega⟩
    rcases Nat.lt_succ_iff_lt_or_eq.1 hj with h | rfl
    · exact hb j h
    · assumption
  · (refine FnEnd.ret (F' := F) (vs := [_]) (by (first | refine ResF.tmp inW ?_ | refine ResF.cell rfl inF inP ?_); exact ResF.nil) inS ⟨?_, rfl⟩)
    show AV.bool _ = _
    rw [he.2 (list_ext (z := 0) (by omega) fun j hj => hb j (by omega))]
theorem f30_ok {xs ys : List Int} {u v : AV} (hu : RowI F u xs) (hv : RowI F v ys) (hl : xs.length ≤ 9223372036854775807) (eq : Bool) (he : eq = true ↔ xs = ys) : Pure tblW (fnv 30) [u, v] F (.bool eq) := by
  intro lo
  refine Fn.func (fn := af30) rfl rfl ?_
  (repeat' (first | (first | refine Wo.nil ?_ | refine Wd.nil ?_ | ((first | refine Wo.cons ?_ | refine Wd.cons ?_); (try refine W1.go rfl rfl ?_); ((first | refine W1.skip rfl rfl ?_ | refine W1.skip2 rfl ?_ | refine W1.auto ?_ | refine W1.lss rfl rfl (fun _ => ?_) (fun _ => ?_) | refine W1.gtr rfl rfl (fun _ => ?_) (fun _ => ?_) | refine W1.leq rfl rfl (fun _ => ?_) (fun _ => ?_) | refine W1.geq rfl rfl (fun _ => ?_) (fun _ => ?_) | refine W1.eql rfl rfl (fun _ => ?_) (fun _ => ?_) | refine W1.neq rfl rfl (fun _ => ?_) (fun _ => ?_) | refine W1.neq2 rfl rfl (fun _ => ?_) (fun _ => ?_) | refine W1.alloc (fun _ _ => ?_) | refine W1.boxA rfl (fun _ _ => ?_) | (refine isBinQuo ?_; first | refine W1.quoN rfl rfl (by omega) (by omega) (fun _ _ => ?_) | refine W1.quo rfl rfl (by omega) (by omega) ?_) | (refine isIaddrs ?_; first | refine W1.iaddrI inI rfl rfl (by omega) (fun _ _ _ _ _ _ => ?_) | refine W1.iaddrR inR rfl rfl (by omega) (fun _ _ _ _ _ _ _ => ?_)) | (refine isBox ?_; refine W1.boxS inW (by rfl) (fun _ _ => ?_)) | (refine isBslice ?_; refine W1.bslice (fill_all inC rfl) (fun _ _ => ?_))) <;> (try refine ⟨fun _ => rfl, ?_⟩)))) | (first | refine Ws.seq ?_ | refine Ws.region ?_ | refine Ws.draw (fun bd hbd => ?_) | refine Ws.cond rfl ?_ | refine Ws.skip ?_ | refine Ws.scope ?_ | refine Ws.block ?_ | refine Ws.exit ?_ | refine Ws.ret ?_)))
  · (refine FnEnd.ret (F' := F) (vs := [_]) (by (first | refine ResF.tmp inW ?_ | refine ResF.cell rfl inF inP ?_); exact ResF.nil) inS ⟨?_, rfl⟩)
    show AV.bool _ = _
    cases eq
    · rfl
    · have := he.1 rfl
      subst this
      omega
  refine Ws.loopG (X := Nat) (fun i => [(0, u), (1, v), (5, .int .i64 (i : Nat))]) (fun _ => F) (fun i => i ≤ xs.length ∧ ∀ j, j < i → xs.getD j 0 = ys.getD j 0) (fun i => xs.length - i) 0
    ⟨rfl, rfl, rfl, trivial⟩ inS ⟨Nat.zero_le _, fun j hj => absurd hj (Nat.not_lt_zero j)⟩ ?_
  rintro i B ⟨hi, hb⟩
  (repeat' (first | (first | refine Wo.nil ?_ | refine Wd.nil ?_ | ((first | refine Wo.cons ?_ | refine Wd.cons ?_); (try refine W1.go rfl rfl ?_); ((first | refine W1.skip rfl rfl ?_ | refine W1.skip2 rfl ?_ | refine W1.auto ?_ | refine W1.lss rfl rfl (fun _ => ?_) (fun _ => ?_) | refine W1.gtr rfl rfl (fun _ => ?_) (fun _ => ?_) | refine W1.leq rfl rfl (fun _ => ?_) (fun _ => ?_) | refine W1.geq rfl rfl (fun _ => ?_) (fun _ => ?_) | refine W1.eql rfl rfl (fun _ => ?_) (fun _ => ?_) | refine W1.neq rfl rfl (fun _ => ?_) (fun _ => ?_) | refine W1.neq2 rfl rfl (fun _ => ?_) (fun _ => ?_) | refine W1.alloc (fun _ _ => ?_) | refine W1.boxA rfl (fun _ _ => ?_) | (refine isBinQuo ?_; first | refine W1.quoN rfl rfl (by omega) (by omega) (fun _ _ => ?_) | refine W1.quo rfl rfl (by omega) (by omega) ?_) | (refine isIaddrs ?_; first | refine W1.iaddrI inI rfl rfl (by omega) (fun _ _ _ _ _ _ => ?_) | refine W1.iaddrR inR rfl rfl (by omega) (fun _ _ _ _ _ _ _ => ?_)) | (refine isBox ?_; refine W1.boxS inW (by rfl) (fun _ _ => ?_)) | (refine isBslice ?_; refine W1.bslice (fill_all inC rfl) (fun _ _ => ?_))) <;> (try refine ⟨fun _ => rfl, ?_⟩)))) | (first | refine Ws.seq ?_ | refine Ws.region ?_ | refine Ws.draw (fun bd hbd => ?_) | refine Ws.cond rfl ?_ | refine Ws.skip ?_ | refine Ws.scope ?_ | refine Ws.block ?_ | refine Ws.exit ?_ | refine Ws.ret ?_)))
  · (refine FnEnd.ret (F' := F) (vs := [_]) (by (first | refine ResF.tmp inW ?_ | refine ResF.cell rfl inF inP ?_); exact ResF.nil) inS ⟨?_, rfl⟩)
    show AV.bool _ = _
    cases eq
    · rfl
    · have := he.1 rfl
      subst this
      exact absurd rfl (by assumption)
  · refine ⟨i + 1, ⟨rfl, rfl, rfl, trivial⟩, inS, ⟨by omega, fun j hj => ?_⟩, by omega⟩
    rcases Nat.lt_succ_iff_lt_or_eq.1 hj with h | rfl
    · exact hb j h
    · assumption
  · (refine FnEnd.ret (F' := F) (vs := [_]) (by (first | refine ResF.tmp inW ?_ | refine ResF.cell rfl inF inP ?_); exact ResF.nil) inS ⟨?_, rfl⟩)
    show AV.bool _ = _
    rw [he.2 (list_ext (z := 0) (by omega) fun j hj => hb j (by omega))]
end Go.Ax
