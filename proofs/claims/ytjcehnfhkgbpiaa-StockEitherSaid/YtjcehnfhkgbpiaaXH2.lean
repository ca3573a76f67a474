/-
  Contracts: what a meter showed, by the program and by the reference.
-/
import Derived.Test.YtjcehnfhkgbpiaaXH1
import Derived.Test.YtjcehnfhkgbpiaaXHM
namespace Go.Ax
set_option maxHeartbeats 1000000
set_option maxRecDepth 6000
set_option linter.unusedSimpArgs false
set_option linter.unusedVariables false
variable {lo : Nat} {F : Hp}
theorem eq_of_le {a b : Int} (h : ∀ x, x ≤ a ↔ x ≤ b) : a = b := by
  have h1 := (h a).1 (Int.le_refl _)
  have h2 := (h b).2 (Int.le_refl _)
  omega
theorem neg_up {n d : Int} (hd : 0 < d) : -(upQ (-n) d) = n / d := by
  refine eq_of_le fun x => ?_
  rw [le_quo hd]
  have h := upQ_le (n := -n) (t := -x) hd
  rw [Int.neg_mul] at h
  omega
theorem f65_ok {n d : Int} (hn : 0 ≤ n ∧ n ≤ 1000000000000) (hd : 1 ≤ d ∧ d ≤ 1000000000) : Pure tblW (fnv 65) [.int .i64 n, .int .i64 d] F (.int .i64 (upQ n d)) := by
  intro lo
  refine Fn.func (fn := af65) rfl rfl ?_
  (repeat' (first | (first | refine Wo.nil ?_ | refine Wd.nil ?_ | ((first | refine Wo.cons ?_ | refine Wd.cons ?_); (try refine W1.go rfl rfl ?_); ((first | refine k1 ?_ | refine k2 ?_ | refine W1.auto ?_ | ((first | refine kA ?_ | refine kB ?_ | refine kC ?_ | refine kD ?_ | refine kE ?_ | refine kF ?_ | refine kG ?_); refine ⟨fun _ => ?_, fun _ => ?_⟩) | refine W1.alloc (fun _ _ => ?_) | refine W1.boxA rfl (fun _ _ => ?_) | refine kq (fun _ _ => ?_) | refine kp ?_ | (refine isIaddrs ?_; first | refine W1.iaddrI inI rfl rfl (by omega) (fun _ _ _ _ _ _ => ?_) | refine W1.iaddrR inR rfl rfl (by omega) (fun _ _ _ _ _ _ _ => ?_)) | (refine isBox ?_; refine W1.boxS inW (by rfl) (fun _ _ => ?_)) | (refine isBslice ?_; refine W1.bslice (fill_all inC rfl) (fun _ _ => ?_))) <;> (try refine ⟨fun _ => rfl, ?_⟩)))) | (first | refine Ws.seq ?_ | refine Ws.region ?_ | refine Ws.draw (fun bd hbd => ?_) | refine Ws.cond rfl ?_ | refine Ws.skip ?_ | refine Ws.scope ?_ | refine Ws.block ?_ | refine Ws.exit ?_ | refine Ws.ret ?_)))
  (refine FnEnd.ret (F' := F) (vs := [_]) (by (first | refine ResF.tmp inW ?_ | refine ResF.cell rfl inF inP ?_); exact ResF.nil) inS ⟨?_, rfl⟩)
  rfl
theorem f68_ok {n d : Int} (hn : -1000000000 ≤ n ∧ n ≤ 1000000000) (hd : 1 ≤ d ∧ d ≤ 1000000) : Pure tblW (fnv 68) [.int .i64 n, .int .i64 d] F (.int .i64 (n / d)) := by
  intro lo
  refine Fn.func (fn := af68) rfl rfl ?_
  have hu : n < 0 → -1000000000000 ≤ upQ (-n) d ∧ upQ (-n) d ≤ 1000000000000 := fun h => by
    have h1 := neg_up (n := n) (d := d) (by omega)
    have h2 : 0 ≤ upQ (-n) d := Int.ediv_nonneg (by omega) (by omega)
    have h3 : upQ (-n) d ≤ -n + d - 1 := Int.ediv_le_self d (by omega)
    omega
  by_cases hneg : n < 0
  · have hu' := hu hneg
    (repeat' (first | (first | refine Wo.nil ?_ | refine Wd.nil ?_ | ((first | refine Wo.cons ?_ | refine Wd.cons ?_); (try refine W1.go rfl rfl ?_); ((first | refine k1 ?_ | refine k2 ?_ | refine W1.cA ?_ | (refine isCall ?_; refine W1.pure rfl rfl (f65_ok (by omega) (by omega)) ?_) | refine W1.auto ?_ | ((first | refine kA ?_ | refine kB ?_ | refine kC ?_ | refine kD ?_ | refine kE ?_ | refine kF ?_ | refine kG ?_); refine ⟨fun _ => ?_, fun _ => ?_⟩) | refine W1.alloc (fun _ _ => ?_) | refine W1.boxA rfl (fun _ _ => ?_) | refine kq (fun _ _ => ?_) | refine kp ?_ | (refine isIaddrs ?_; first | refine W1.iaddrI inI rfl rfl (by omega) (fun _ _ _ _ _ _ => ?_) | refine W1.iaddrR inR rfl rfl (by omega) (fun _ _ _ _ _ _ _ => ?_)) | (refine isBox ?_; refine W1.boxS inW (by rfl) (fun _ _ => ?_)) | (refine isBslice ?_; refine W1.bslice (fill_all inC rfl) (fun _ _ => ?_))) <;> (try refine ⟨fun _ => rfl, ?_⟩)))) | (first | refine Ws.seq ?_ | refine Ws.region ?_ | refine Ws.draw (fun bd hbd => ?_) | refine Ws.cond rfl ?_ | refine Ws.skip ?_ | refine Ws.scope ?_ | refine Ws.block ?_ | refine Ws.exit ?_ | refine Ws.ret ?_)))
    (refine FnEnd.ret (F' := F) (vs := [_]) (by (first | refine ResF.tmp inW ?_ | refine ResF.cell rfl inF inP ?_); exact ResF.nil) inS ⟨?_, rfl⟩)
    show AV.int .i64 _ = AV.int .i64 _
    rw [neg_up (by omega)]
  · have hpos : 0 ≤ n := by omega
    (repeat' (first | (first | refine Wo.nil ?_ | refine Wd.nil ?_ | ((first | refine Wo.cons ?_ | refine Wd.cons ?_); (try refine W1.go rfl rfl ?_); ((first | refine k1 ?_ | refine k2 ?_ | refine W1.cA ?_ | (refine isCall ?_; refine W1.pure rfl rfl (f65_ok (by omega) (by omega)) ?_) | refine W1.auto ?_ | ((first | refine kA ?_ | refine kB ?_ | refine kC ?_ | refine kD ?_ | refine kE ?_ | refine kF ?_ | refine kG ?_); refine ⟨fun _ => ?_, fun _ => ?_⟩) | refine W1.alloc (fun _ _ => ?_) | refine W1.boxA rfl (fun _ _ => ?_) | refine kq (fun _ _ => ?_) | refine kp ?_ | (refine isIaddrs ?_; first | refine W1.iaddrI inI rfl rfl (by omega) (fun _ _ _ _ _ _ => ?_) | refine W1.iaddrR inR rfl rfl (by omega) (fun _ _ _ _ _ _ _ => ?_)) | (refine isBox ?_; refine W1.boxS inW (by rfl) (fun _ _ => ?_)) | (refine isBslice ?_; refine W1.bslice (fill_all inC rfl) (fun _ _ => ?_))) <;> (try refine ⟨fun _ => rfl, ?_⟩)))) | (first | refine Ws.seq ?_ | refine Ws.region ?_ | refine Ws.draw (fun bd hbd => ?_) | refine Ws.cond rfl ?_ | refine Ws.skip ?_ | refine Ws.scope ?_ | refine Ws.block ?_ | refine Ws.exit ?_ | refine Ws.ret ?_)))
    (refine FnEnd.ret (F' := F) (vs := [_]) (by (first | refine ResF.tmp inW ?_ | refine ResF.cell rfl inF inP ?_); exact ResF.nil) inS ⟨?_, rfl⟩)
    rfl
theorem f53_1t {b : Nat} {own : Bool} {l h a : Int} {cap es : Nat} {ex : Bool} (hm : (b, .cells [.int .i64 a] own) ∈ F) (hh : l ≤ a ∧ a ≤ h) : Pure tblW (fnv 53) [.int .i64 l, .int .i64 h, .slc (some (b, 0)) 1 cap ex es] F (.bool true) := by
  have := f53_1 (l := l) (h := h) (cap := cap) (es := es) (ex := ex) hm
  rwa [decide_eq_true hh] at this
theorem f53_1f {b : Nat} {own : Bool} {l h a : Int} {cap es : Nat} {ex : Bool} (hm : (b, .cells [.int .i64 a] own) ∈ F) (hh : ¬ (l ≤ a ∧ a ≤ h)) : Pure tblW (fnv 53) [.int .i64 l, .int .i64 h, .slc (some (b, 0)) 1 cap ex es] F (.bool false) := by
  have := f53_1 (l := l) (h := h) (cap := cap) (es := es) (ex := ex) hm
  rwa [decide_eq_false hh] at this
theorem f51_t {a b l h : Int} (hh : l ≤ a ∧ a ≤ b ∧ b ≤ h) : Pure tblW (fnv 51) [.agg [.int .i64 a, .int .i64 b], .int .i64 l, .int .i64 h] F (.bool true) := by
  have := f51_ok (F := F) (r := (a, b)) (l := l) (h := h)
  rwa [show vr l h (a, b) = true from decide_eq_true hh] at this
theorem f51_f {a b l h : Int} (hh : ¬ (l ≤ a ∧ a ≤ b ∧ b ≤ h)) : Pure tblW (fnv 51) [.agg [.int .i64 a, .int .i64 b], .int .i64 l, .int .i64 h] F (.bool false) := by
  have := f51_ok (F := F) (r := (a, b)) (l := l) (h := h)
  rwa [show vr l h (a, b) = false from decide_eq_false hh] at this
theorem f52_t {a b l h : Int} (hh : l ≤ a ∧ a ≤ b ∧ b ≤ h) : Pure tblW (fnv 52) [.agg [.int .i64 a, .int .i64 b], .int .i64 l, .int .i64 h] F (.bool true) := by
  have := f52_ok (F := F) (r := (a, b)) (l := l) (h := h)
  rwa [show vr l h (a, b) = true from decide_eq_true hh] at this
theorem f52_f {a b l h : Int} (hh : ¬ (l ≤ a ∧ a ≤ b ∧ b ≤ h)) : Pure tblW (fnv 52) [.agg [.int .i64 a, .int .i64 b], .int .i64 l, .int .i64 h] F (.bool false) := by
  have := f52_ok (F := F) (r := (a, b)) (l := l) (h := h)
  rwa [show vr l h (a, b) = false from decide_eq_false hh] at this
/-- a range, and the error -/
abbrev rv (r : (Int × Int) × Int) : AV := .tup [.agg [.int .i64 r.1.1, .int .i64 r.1.2], .int .i64 r.2]
theorem f33_ok {shown l h : Int} : Pure tblW (fnv 33) [.int .i64 shown, .agg [.int .i64 l, .int .i64 h]] F (rv (meterR shown l h)) := by
  intro lo
  refine Fn.func (fn := af33) rfl rfl ?_
  by_cases hs : 0 ≤ shown ∧ shown ≤ 100000
  · by_cases ho : -100 ≤ l ∧ l ≤ h ∧ h ≤ 100
    · have e1 : meterR shown l h = if upQ (1000 * shown) (1000 + h) ≤ 1000 * shown / (1000 + l) then ((upQ (1000 * shown) (1000 + h), 1000 * shown / (1000 + l)), 0) else ((0, 0), 5) := by
        unfold meterR; rw [if_neg (by omega), if_neg (by omega)]
      by_cases hle : upQ (1000 * shown) (1000 + h) ≤ 1000 * shown / (1000 + l)
      · rw [e1, if_pos hle]
        (repeat' (first | (first | refine Wo.nil ?_ | refine Wd.nil ?_ | ((first | refine Wo.cons ?_ | refine Wd.cons ?_); (try refine W1.go rfl rfl ?_); ((first | refine k1 ?_ | refine k2 ?_ | refine W1.cA ?_ | (refine isDst 10 ?_; refine W1.pure rfl rfl (f53_1f inF hs) ?_) | (refine isDst 10 ?_; refine W1.pure rfl rfl (f53_1t inF hs) ?_) | (refine isDst 15 ?_; refine W1.pure rfl rfl (f51_f ho) ?_) | (refine isDst 15 ?_; refine W1.pure rfl rfl (f51_t ho) ?_) | (refine isDst 23 ?_; refine W1.pure rfl rfl (f65_ok (by omega) (by omega)) ?_) | refine W1.auto ?_ | ((first | refine kA ?_ | refine kB ?_ | refine kC ?_ | refine kD ?_ | refine kE ?_ | refine kF ?_ | refine kG ?_); refine ⟨fun _ => ?_, fun _ => ?_⟩) | refine W1.alloc (fun _ _ => ?_) | refine W1.boxA rfl (fun _ _ => ?_) | refine kq (fun _ _ => ?_) | refine kp ?_ | (refine isIaddrs ?_; first | refine W1.iaddrI inI rfl rfl (by omega) (fun _ _ _ _ _ _ => ?_) | refine W1.iaddrR inR rfl rfl (by omega) (fun _ _ _ _ _ _ _ => ?_)) | (refine isBox ?_; refine W1.boxS inW (by rfl) (fun _ _ => ?_)) | (refine isBslice ?_; refine W1.bslice (fill_all inC rfl) (fun _ _ => ?_))) <;> (try refine ⟨fun _ => rfl, ?_⟩)))) | (first | refine Ws.seq ?_ | refine Ws.region ?_ | refine Ws.draw (fun bd hbd => ?_) | refine Ws.cond rfl ?_ | refine Ws.skip ?_ | refine Ws.scope ?_ | refine Ws.block ?_ | refine Ws.exit ?_ | refine Ws.ret ?_)))
        (refine FnEnd.ret (F' := F) (vs := [_, _]) (by (first | refine ResF.tmp inW ?_ | refine ResF.cell rfl inF inP ?_); (first | refine ResF.tmp inW ?_ | refine ResF.cell rfl inF inP ?_); exact ResF.nil) inS ⟨?_, rfl⟩)
        rfl
      · rw [e1, if_neg hle]
        have hlt : 1000 * shown / (1000 + l) < upQ (1000 * shown) (1000 + h) := by omega
        (repeat' (first | (first | refine Wo.nil ?_ | refine Wd.nil ?_ | ((first | refine Wo.cons ?_ | refine Wd.cons ?_); (try refine W1.go rfl rfl ?_); ((first | refine k1 ?_ | refine k2 ?_ | refine W1.cA ?_ | (refine isDst 10 ?_; refine W1.pure rfl rfl (f53_1f inF hs) ?_) | (refine isDst 10 ?_; refine W1.pure rfl rfl (f53_1t inF hs) ?_) | (refine isDst 15 ?_; refine W1.pure rfl rfl (f51_f ho) ?_) | (refine isDst 15 ?_; refine W1.pure rfl rfl (f51_t ho) ?_) | (refine isDst 23 ?_; refine W1.pure rfl rfl (f65_ok (by omega) (by omega)) ?_) | refine W1.auto ?_ | ((first | refine kA ?_ | refine kB ?_ | refine kC ?_ | refine kD ?_ | refine kE ?_ | refine kF ?_ | refine kG ?_); refine ⟨fun _ => ?_, fun _ => ?_⟩) | refine W1.alloc (fun _ _ => ?_) | refine W1.boxA rfl (fun _ _ => ?_) | refine kq (fun _ _ => ?_) | refine kp ?_ | (refine isIaddrs ?_; first | refine W1.iaddrI inI rfl rfl (by omega) (fun _ _ _ _ _ _ => ?_) | refine W1.iaddrR inR rfl rfl (by omega) (fun _ _ _ _ _ _ _ => ?_)) | (refine isBox ?_; refine W1.boxS inW (by rfl) (fun _ _ => ?_)) | (refine isBslice ?_; refine W1.bslice (fill_all inC rfl) (fun _ _ => ?_))) <;> (try refine ⟨fun _ => rfl, ?_⟩)))) | (first | refine Ws.seq ?_ | refine Ws.region ?_ | refine Ws.draw (fun bd hbd => ?_) | refine Ws.cond rfl ?_ | refine Ws.skip ?_ | refine Ws.scope ?_ | refine Ws.block ?_ | refine Ws.exit ?_ | refine Ws.ret ?_)))
        (refine FnEnd.ret (F' := F) (vs := [_, _]) (by (first | refine ResF.tmp inW ?_ | refine ResF.cell rfl inF inP ?_); (first | refine ResF.tmp inW ?_ | refine ResF.cell rfl inF inP ?_); exact ResF.nil) inS ⟨?_, rfl⟩)
        rfl
    · have e1 : meterR shown l h = ((0, 0), 2) := by unfold meterR; rw [if_neg (by omega), if_pos ho]
      rw [e1]
      (repeat' (first | (first | refine Wo.nil ?_ | refine Wd.nil ?_ | ((first | refine Wo.cons ?_ | refine Wd.cons ?_); (try refine W1.go rfl rfl ?_); ((first | refine k1 ?_ | refine k2 ?_ | refine W1.cA ?_ | (refine isDst 10 ?_; refine W1.pure rfl rfl (f53_1f inF hs) ?_) | (refine isDst 10 ?_; refine W1.pure rfl rfl (f53_1t inF hs) ?_) | (refine isDst 15 ?_; refine W1.pure rfl rfl (f51_f ho) ?_) | (refine isDst 15 ?_; refine W1.pure rfl rfl (f51_t ho) ?_) | (refine isDst 23 ?_; refine W1.pure rfl rfl (f65_ok (by omega) (by omega)) ?_) | refine W1.auto ?_ | ((first | refine kA ?_ | refine kB ?_ | refine kC ?_ | refine kD ?_ | refine kE ?_ | refine kF ?_ | refine kG ?_); refine ⟨fun _ => ?_, fun _ => ?_⟩) | refine W1.alloc (fun _ _ => ?_) | refine W1.boxA rfl (fun _ _ => ?_) | refine kq (fun _ _ => ?_) | refine kp ?_ | (refine isIaddrs ?_; first | refine W1.iaddrI inI rfl rfl (by omega) (fun _ _ _ _ _ _ => ?_) | refine W1.iaddrR inR rfl rfl (by omega) (fun _ _ _ _ _ _ _ => ?_)) | (refine isBox ?_; refine W1.boxS inW (by rfl) (fun _ _ => ?_)) | (refine isBslice ?_; refine W1.bslice (fill_all inC rfl) (fun _ _ => ?_))) <;> (try refine ⟨fun _ => rfl, ?_⟩)))) | (first | refine Ws.seq ?_ | refine Ws.region ?_ | refine Ws.draw (fun bd hbd => ?_) | refine Ws.cond rfl ?_ | refine Ws.skip ?_ | refine Ws.scope ?_ | refine Ws.block ?_ | refine Ws.exit ?_ | refine Ws.ret ?_)))
      (refine FnEnd.ret (F' := F) (vs := [_, _]) (by (first | refine ResF.tmp inW ?_ | refine ResF.cell rfl inF inP ?_); (first | refine ResF.tmp inW ?_ | refine ResF.cell rfl inF inP ?_); exact ResF.nil) inS ⟨?_, rfl⟩)
      rfl
  · have e1 : meterR shown l h = ((0, 0), 3) := by unfold meterR; rw [if_pos (by omega)]
    rw [e1]
    (repeat' (first | (first | refine Wo.nil ?_ | refine Wd.nil ?_ | ((first | refine Wo.cons ?_ | refine Wd.cons ?_); (try refine W1.go rfl rfl ?_); ((first | refine k1 ?_ | refine k2 ?_ | refine W1.cA ?_ | (refine isDst 10 ?_; refine W1.pure rfl rfl (f53_1f inF hs) ?_) | (refine isDst 10 ?_; refine W1.pure rfl rfl (f53_1t inF hs) ?_) | (refine isDst 15 ?_; refine W1.pure rfl rfl (f51_f ho) ?_) | (refine isDst 15 ?_; refine W1.pure rfl rfl (f51_t ho) ?_) | (refine isDst 23 ?_; refine W1.pure rfl rfl (f65_ok (by omega) (by omega)) ?_) | refine W1.auto ?_ | ((first | refine kA ?_ | refine kB ?_ | refine kC ?_ | refine kD ?_ | refine kE ?_ | refine kF ?_ | refine kG ?_); refine ⟨fun _ => ?_, fun _ => ?_⟩) | refine W1.alloc (fun _ _ => ?_) | refine W1.boxA rfl (fun _ _ => ?_) | refine kq (fun _ _ => ?_) | refine kp ?_ | (refine isIaddrs ?_; first | refine W1.iaddrI inI rfl rfl (by omega) (fun _ _ _ _ _ _ => ?_) | refine W1.iaddrR inR rfl rfl (by omega) (fun _ _ _ _ _ _ _ => ?_)) | (refine isBox ?_; refine W1.boxS inW (by rfl) (fun _ _ => ?_)) | (refine isBslice ?_; refine W1.bslice (fill_all inC rfl) (fun _ _ => ?_))) <;> (try refine ⟨fun _ => rfl, ?_⟩)))) | (first | refine Ws.seq ?_ | refine Ws.region ?_ | refine Ws.draw (fun bd hbd => ?_) | refine Ws.cond rfl ?_ | refine Ws.skip ?_ | refine Ws.scope ?_ | refine Ws.block ?_ | refine Ws.exit ?_ | refine Ws.ret ?_)))
    (refine FnEnd.ret (F' := F) (vs := [_, _]) (by (first | refine ResF.tmp inW ?_ | refine ResF.cell rfl inF inP ?_); (first | refine ResF.tmp inW ?_ | refine ResF.cell rfl inF inP ?_); exact ResF.nil) inS ⟨?_, rfl⟩)
    rfl
end Go.Ax
