/-
  Contracts of the checks of a kind.
-/
import Derived.Test.YtmhbmnonichopaaXO1
namespace Go.Ax
variable {lo : Nat} {F : Hp}

theorem f58_ok {p : Int → Bool} {xs : List Int} {fv v : AV} (hr : RowI F v xs) (hlen : xs.length ≤ 9223372036854775807) (hf : ∀ j, j < xs.length → Pure tblW fv [.int .i64 (xs.getD j 0)] F (.bool (p (xs.getD j 0)))) :
    Pure tblW (fnv 58) [v, fv] F (.bool (xs.any p)) := by
  intro lo
  refine Fn.func (fn := af58) rfl rfl ?_
  have hi := idxOf_any p xs
  (repeat' (first | (first | refine Wo.nil ?_ | refine Wd.nil ?_ | ((first | refine Wo.cons ?_ | refine Wd.cons ?_); (try refine W1.go rfl rfl ?_); ((first | refine k1 ?_ | refine k2 ?_ | (refine isCall ?_; refine W1.pure rfl rfl (f68_ok (p := p) inI hlen hf) ?_) | refine W1.auto ?_ | ((first | refine kA ?_ | refine kB ?_ | refine kC ?_ | refine kD ?_ | refine kE ?_ | refine kF ?_ | refine kG ?_); refine ⟨fun _ => ?_, fun _ => ?_⟩) | refine W1.alloc (fun _ _ => ?_) | refine W1.boxA rfl (fun _ _ => ?_) | refine kq (fun _ _ => ?_) | refine kp ?_ | (refine isIaddrs ?_; first | refine W1.iaddrI inI rfl rfl (by omega) (fun _ _ _ _ _ _ => ?_) | refine W1.iaddrR inR rfl rfl (by omega) (fun _ _ _ _ _ _ _ => ?_)) | (refine isBox ?_; refine W1.boxS inW (by rfl) (fun _ _ => ?_)) | (refine isBslice ?_; refine W1.bslice (fill_all inC rfl) (fun _ _ => ?_))) <;> (try refine ⟨fun _ => rfl, ?_⟩)))) | (first | refine Ws.seq ?_ | refine Ws.region ?_ | refine Ws.draw (fun bd hbd => ?_) | refine Ws.cond rfl ?_ | refine Ws.skip ?_ | refine Ws.scope ?_ | refine Ws.block ?_ | refine Ws.exit ?_ | refine Ws.ret ?_)))
  all_goals (refine FnEnd.ret (F' := F) (vs := [_]) (by (first | refine ResF.tmp inW ?_ | refine ResF.cell rfl inF inP ?_); exact ResF.nil) inS ⟨?_, rfl⟩)
  · have : xs.any p = true := hi.1 (by assumption)
    rw [this]; rfl
  · have : ¬ xs.any p = true := fun h => by have := hi.2 h; omega
    rw [Bool.not_eq_true] at this
    rw [this]; rfl
theorem f45_ok {p : Int → Bool} {xs : List Int} {fv v : AV} (hr : RowI F v xs) (hlen : xs.length ≤ 9223372036854775807) (hf : ∀ j, j < xs.length → Pure tblW fv [.int .i64 (xs.getD j 0)] F (.bool (p (xs.getD j 0)))) :
    Pure tblW (fnv 45) [v, fv] F (.bool (xs.any p)) := by
  intro lo
  refine Fn.func (fn := af45) rfl rfl ?_
  have hi := idxOf_any p xs
  (repeat' (first | (first | refine Wo.nil ?_ | refine Wd.nil ?_ | ((first | refine Wo.cons ?_ | refine Wd.cons ?_); (try refine W1.go rfl rfl ?_); ((first | refine k1 ?_ | refine k2 ?_ | (refine isCall ?_; refine W1.pure rfl rfl (f57_ok (p := p) inI hlen hf) ?_) | refine W1.auto ?_ | ((first | refine kA ?_ | refine kB ?_ | refine kC ?_ | refine kD ?_ | refine kE ?_ | refine kF ?_ | refine kG ?_); refine ⟨fun _ => ?_, fun _ => ?_⟩) | refine W1.alloc (fun _ _ => ?_) | refine W1.boxA rfl (fun _ _ => ?_) | refine kq (fun _ _ => ?_) | refine kp ?_ | (refine isIaddrs ?_; first | refine W1.iaddrI inI rfl rfl (by omega) (fun _ _ _ _ _ _ => ?_) | refine W1.iaddrR inR rfl rfl (by omega) (fun _ _ _ _ _ _ _ => ?_)) | (refine isBox ?_; refine W1.boxS inW (by rfl) (fun _ _ => ?_)) | (refine isBslice ?_; refine W1.bslice (fill_all inC rfl) (fun _ _ => ?_))) <;> (try refine ⟨fun _ => rfl, ?_⟩)))) | (first | refine Ws.seq ?_ | refine Ws.region ?_ | refine Ws.draw (fun bd hbd => ?_) | refine Ws.cond rfl ?_ | refine Ws.skip ?_ | refine Ws.scope ?_ | refine Ws.block ?_ | refine Ws.exit ?_ | refine Ws.ret ?_)))
  all_goals (refine FnEnd.ret (F' := F) (vs := [_]) (by (first | refine ResF.tmp inW ?_ | refine ResF.cell rfl inF inP ?_); exact ResF.nil) inS ⟨?_, rfl⟩)
  · have : xs.any p = true := hi.1 (by assumption)
    rw [this]; rfl
  · have : ¬ xs.any p = true := fun h => by have := hi.2 h; omega
    rw [Bool.not_eq_true] at this
    rw [this]; rfl
theorem f49_ok {p : Int × Int → Bool} {xs : List (Int × Int)} {fv v : AV} (hr : RowR F v xs) (hlen : xs.length ≤ 9223372036854775807) (hf : ∀ j, j < xs.length → Pure tblW fv [.agg [.int .i64 (xs.getD j (0, 0)).1, .int .i64 (xs.getD j (0, 0)).2]] F (.bool (p (xs.getD j (0, 0))))) :
    Pure tblW (fnv 49) [v, fv] F (.bool (xs.any p)) := by
  intro lo
  refine Fn.func (fn := af49) rfl rfl ?_
  have hi := idxOf_any p xs
  (repeat' (first | (first | refine Wo.nil ?_ | refine Wd.nil ?_ | ((first | refine Wo.cons ?_ | refine Wd.cons ?_); (try refine W1.go rfl rfl ?_); ((first | refine k1 ?_ | refine k2 ?_ | (refine isCall ?_; refine W1.pure rfl rfl (f60_ok (p := p) inR hlen hf) ?_) | refine W1.auto ?_ | ((first | refine kA ?_ | refine kB ?_ | refine kC ?_ | refine kD ?_ | refine kE ?_ | refine kF ?_ | refine kG ?_); refine ⟨fun _ => ?_, fun _ => ?_⟩) | refine W1.alloc (fun _ _ => ?_) | refine W1.boxA rfl (fun _ _ => ?_) | refine kq (fun _ _ => ?_) | refine kp ?_ | (refine isIaddrs ?_; first | refine W1.iaddrI inI rfl rfl (by omega) (fun _ _ _ _ _ _ => ?_) | refine W1.iaddrR inR rfl rfl (by omega) (fun _ _ _ _ _ _ _ => ?_)) | (refine isBox ?_; refine W1.boxS inW (by rfl) (fun _ _ => ?_)) | (refine isBslice ?_; refine W1.bslice (fill_all inC rfl) (fun _ _ => ?_))) <;> (try refine ⟨fun _ => rfl, ?_⟩)))) | (first | refine Ws.seq ?_ | refine Ws.region ?_ | refine Ws.draw (fun bd hbd => ?_) | refine Ws.cond rfl ?_ | refine Ws.skip ?_ | refine Ws.scope ?_ | refine Ws.block ?_ | refine Ws.exit ?_ | refine Ws.ret ?_)))
  all_goals (refine FnEnd.ret (F' := F) (vs := [_]) (by (first | refine ResF.tmp inW ?_ | refine ResF.cell rfl inF inP ?_); exact ResF.nil) inS ⟨?_, rfl⟩)
  · have : xs.any p = true := hi.1 (by assumption)
    rw [this]; rfl
  · have : ¬ xs.any p = true := fun h => by have := hi.2 h; omega
    rw [Bool.not_eq_true] at this
    rw [this]; rfl

def wi (l h : Int) (xs : List Int) : Bool := !xs.any fun x => decide (x < l ∨ h < x)
theorem f47_ok {xs : List Int} {l h : Int} {v : AV} (hr : RowI F v xs) (hlen : xs.length ≤ 9223372036854775807) : Pure tblW (fnv 47) [.int .i64 l, .int .i64 h, v] F (.bool (wi l h xs)) := by
  intro lo
  refine Fn.func (fn := af47) rfl rfl ?_
  (repeat' (first | (first | refine Wo.nil ?_ | refine Wd.nil ?_ | ((first | refine Wo.cons ?_ | refine Wd.cons ?_); (try refine W1.go rfl rfl ?_); ((first | refine k1 ?_ | refine k2 ?_ | (refine isCall ?_; refine W1.pureB rfl rfl (f58_ok (p := fun x => decide (x < l ∨ h < x)) inI hlen (fun _ _ => f59_ok inF inF)) (fun _ => ?_) (fun _ => ?_)) | refine W1.auto ?_ | ((first | refine kA ?_ | refine kB ?_ | refine kC ?_ | refine kD ?_ | refine kE ?_ | refine kF ?_ | refine kG ?_); refine ⟨fun _ => ?_, fun _ => ?_⟩) | refine W1.alloc (fun _ _ => ?_) | refine W1.boxA rfl (fun _ _ => ?_) | refine kq (fun _ _ => ?_) | refine kp ?_ | (refine isIaddrs ?_; first | refine W1.iaddrI inI rfl rfl (by omega) (fun _ _ _ _ _ _ => ?_) | refine W1.iaddrR inR rfl rfl (by omega) (fun _ _ _ _ _ _ _ => ?_)) | (refine isBox ?_; refine W1.boxS inW (by rfl) (fun _ _ => ?_)) | (refine isBslice ?_; refine W1.bslice (fill_all inC rfl) (fun _ _ => ?_))) <;> (try refine ⟨fun _ => rfl, ?_⟩)))) | (first | refine Ws.seq ?_ | refine Ws.region ?_ | refine Ws.draw (fun bd hbd => ?_) | refine Ws.cond rfl ?_ | refine Ws.skip ?_ | refine Ws.scope ?_ | refine Ws.block ?_ | refine Ws.exit ?_ | refine Ws.ret ?_)))
  all_goals (refine FnEnd.ret (F' := F) (vs := [_]) (by (first | refine ResF.tmp inW ?_ | refine ResF.cell rfl inF inP ?_); exact ResF.nil) inS ⟨?_, rfl⟩)
  all_goals (simp_all [tupOf, wi])

def vr (l h : Int) (r : Int × Int) : Bool := decide (l ≤ r.1 ∧ r.1 ≤ r.2 ∧ r.2 ≤ h)
theorem wi2 (l h a b : Int) : wi l h [a, b] = decide (l ≤ a ∧ a ≤ h ∧ l ≤ b ∧ b ≤ h) := by
  simp only [wi, List.any_cons, List.any_nil, Bool.or_false]
  rw [Bool.eq_iff_iff]
  simp
  omega
theorem wi1 (l h a : Int) : wi l h [a] = decide (l ≤ a ∧ a ≤ h) := by
  simp only [wi, List.any_cons, List.any_nil, Bool.or_false]
  rw [Bool.eq_iff_iff]
  simp
theorem f48_ok {r : Int × Int} {l h : Int} : Pure tblW (fnv 48) [.agg [.int .i64 r.1, .int .i64 r.2], .int .i64 l, .int .i64 h] F (.bool (vr l h r)) := by
  intro lo
  refine Fn.func (fn := af48) rfl rfl ?_
  (repeat' (first | (first | refine Wo.nil ?_ | refine Wd.nil ?_ | ((first | refine Wo.cons ?_ | refine Wd.cons ?_); (try refine W1.go rfl rfl ?_); ((first | refine k1 ?_ | refine k2 ?_ | (refine isCall ?_; refine W1.pureB rfl rfl (f47_ok (xs := [r.1, r.2]) (RowI.lit inF rfl) (by simp only [List.length_cons, List.length_nil]; omega)) (fun _ => ?_) (fun _ => ?_)) | refine W1.auto ?_ | ((first | refine kA ?_ | refine kB ?_ | refine kC ?_ | refine kD ?_ | refine kE ?_ | refine kF ?_ | refine kG ?_); refine ⟨fun _ => ?_, fun _ => ?_⟩) | refine W1.alloc (fun _ _ => ?_) | refine W1.boxA rfl (fun _ _ => ?_) | refine kq (fun _ _ => ?_) | refine kp ?_ | (refine isIaddrs ?_; first | refine W1.iaddrI inI rfl rfl (by omega) (fun _ _ _ _ _ _ => ?_) | refine W1.iaddrR inR rfl rfl (by omega) (fun _ _ _ _ _ _ _ => ?_)) | (refine isBox ?_; refine W1.boxS inW (by rfl) (fun _ _ => ?_)) | (refine isBslice ?_; refine W1.bslice (fill_all inC rfl) (fun _ _ => ?_))) <;> (try refine ⟨fun _ => rfl, ?_⟩)))) | (first | refine Ws.seq ?_ | refine Ws.region ?_ | refine Ws.draw (fun bd hbd => ?_) | refine Ws.cond rfl ?_ | refine Ws.skip ?_ | refine Ws.scope ?_ | refine Ws.block ?_ | refine Ws.exit ?_ | refine Ws.ret ?_)))
  all_goals (refine FnEnd.ret (F' := F) (vs := [_]) (by (first | refine ResF.tmp inW ?_ | refine ResF.cell rfl inF inP ?_); exact ResF.nil) inS ⟨?_, rfl⟩)
  all_goals (simp only [wi2, decide_eq_true_eq, decide_eq_false_iff_not] at *; simp only [tupOf, AV.bool.injEq, vr]; symm; first | (apply decide_eq_true; omega) | (apply decide_eq_false; omega))
theorem f50_ok {r : Int × Int} : Pure tblW (fnv 50) [.agg [.int .i64 r.1, .int .i64 r.2]] F (.bool (!vr 0 100000 r)) := by
  intro lo
  refine Fn.func (fn := af50) rfl rfl ?_
  (repeat' (first | (first | refine Wo.nil ?_ | refine Wd.nil ?_ | ((first | refine Wo.cons ?_ | refine Wd.cons ?_); (try refine W1.go rfl rfl ?_); ((first | refine k1 ?_ | refine k2 ?_ | (refine isCall ?_; refine W1.pureB rfl rfl (f48_ok (r := r)) (fun _ => ?_) (fun _ => ?_)) | refine W1.auto ?_ | ((first | refine kA ?_ | refine kB ?_ | refine kC ?_ | refine kD ?_ | refine kE ?_ | refine kF ?_ | refine kG ?_); refine ⟨fun _ => ?_, fun _ => ?_⟩) | refine W1.alloc (fun _ _ => ?_) | refine W1.boxA rfl (fun _ _ => ?_) | refine kq (fun _ _ => ?_) | refine kp ?_ | (refine isIaddrs ?_; first | refine W1.iaddrI inI rfl rfl (by omega) (fun _ _ _ _ _ _ => ?_) | refine W1.iaddrR inR rfl rfl (by omega) (fun _ _ _ _ _ _ _ => ?_)) | (refine isBox ?_; refine W1.boxS inW (by rfl) (fun _ _ => ?_)) | (refine isBslice ?_; refine W1.bslice (fill_all inC rfl) (fun _ _ => ?_))) <;> (try refine ⟨fun _ => rfl, ?_⟩)))) | (first | refine Ws.seq ?_ | refine Ws.region ?_ | refine Ws.draw (fun bd hbd => ?_) | refine Ws.cond rfl ?_ | refine Ws.skip ?_ | refine Ws.scope ?_ | refine Ws.block ?_ | refine Ws.exit ?_ | refine Ws.ret ?_)))
  all_goals (refine FnEnd.ret (F' := F) (vs := [_]) (by (first | refine ResF.tmp inW ?_ | refine ResF.cell rfl inF inP ?_); exact ResF.nil) inS ⟨?_, rfl⟩)
  all_goals (simp_all [tupOf])
theorem f51_ok {r : Int × Int} {l h : Int} : Pure tblW (fnv 51) [.agg [.int .i64 r.1, .int .i64 r.2], .int .i64 l, .int .i64 h] F (.bool (vr l h r)) := by
  intro lo
  refine Fn.func (fn := af51) rfl rfl ?_
  (repeat' (first | (first | refine Wo.nil ?_ | refine Wd.nil ?_ | ((first | refine Wo.cons ?_ | refine Wd.cons ?_); (try refine W1.go rfl rfl ?_); ((first | refine k1 ?_ | refine k2 ?_ | refine W1.auto ?_ | ((first | refine kA ?_ | refine kB ?_ | refine kC ?_ | refine kD ?_ | refine kE ?_ | refine kF ?_ | refine kG ?_); refine ⟨fun _ => ?_, fun _ => ?_⟩) | refine W1.alloc (fun _ _ => ?_) | refine W1.boxA rfl (fun _ _ => ?_) | refine kq (fun _ _ => ?_) | refine kp ?_ | (refine isIaddrs ?_; first | refine W1.iaddrI inI rfl rfl (by omega) (fun _ _ _ _ _ _ => ?_) | refine W1.iaddrR inR rfl rfl (by omega) (fun _ _ _ _ _ _ _ => ?_)) | (refine isBox ?_; refine W1.boxS inW (by rfl) (fun _ _ => ?_)) | (refine isBslice ?_; refine W1.bslice (fill_all inC rfl) (fun _ _ => ?_))) <;> (try refine ⟨fun _ => rfl, ?_⟩)))) | (first | refine Ws.seq ?_ | refine Ws.region ?_ | refine Ws.draw (fun bd hbd => ?_) | refine Ws.cond rfl ?_ | refine Ws.skip ?_ | refine Ws.scope ?_ | refine Ws.block ?_ | refine Ws.exit ?_ | refine Ws.ret ?_)))
  all_goals (refine FnEnd.ret (F' := F) (vs := [_]) (by (first | refine ResF.tmp inW ?_ | refine ResF.cell rfl inF inP ?_); exact ResF.nil) inS ⟨?_, rfl⟩)
  all_goals (simp only [tupOf, AV.bool.injEq, vr]; symm; first | (apply decide_eq_true; omega) | (apply decide_eq_false; omega))
end Go.Ax
