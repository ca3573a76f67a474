/-
  Contracts: which nets are valid, twice.
-/
import Derived.Test.YtjcehnfhkgbpiaaXNX
namespace Go.Ax
set_option maxHeartbeats 1000000
set_option maxRecDepth 6000
set_option linter.unusedSimpArgs false
set_option linter.unusedVariables false
variable {lo : Nat} {F : Hp}
theorem f48_ok {b1 : Nat} {o1 : Bool} {T x : Int} {v : AV} (h1 : (b1, .cells [.int .i64 T, v] o1) ∈ F) : Pure tblW (.fn (.func 48) [] [.ptr (some (b1, 0))]) [.int .i64 x] F (.bool (decide (0 ≤ x ∧ x ≤ T))) := by
  intro lo
  refine Fn.func (fn := af48) rfl rfl ?_
  (repeat' (first | (first | refine Wo.nil ?_ | refine Wd.nil ?_ | ((first | refine Wo.cons ?_ | refine Wd.cons ?_); (try refine W1.go rfl rfl ?_); ((first | refine k1 ?_ | refine k2 ?_ | refine W1.auto ?_ | ((first | refine kA ?_ | refine kB ?_ | refine kC ?_ | refine kD ?_ | refine kE ?_ | refine kF ?_ | refine kG ?_); refine ⟨fun _ => ?_, fun _ => ?_⟩) | refine W1.alloc (fun _ _ => ?_) | refine W1.boxA rfl (fun _ _ => ?_)) <;> (try refine ⟨fun _ => rfl, ?_⟩)))) | (first | refine Ws.seq ?_ | refine Ws.region ?_ | refine Ws.draw (fun bd hbd => ?_) | refine Ws.cond rfl ?_ | refine Ws.skip ?_ | refine Ws.scope ?_ | refine Ws.block ?_ | refine Ws.exit ?_ | refine Ws.ret ?_)))
  all_goals (refine FnEnd.ret (F' := F) (vs := [_]) (by (first | refine ResF.tmp inW ?_ | refine ResF.cell rfl inF inP ?_); exact ResF.nil) inS ⟨?_, rfl⟩)
  all_goals (simp only [tupOf, AV.bool.injEq]; symm; first | (apply decide_eq_true; omega) | (apply decide_eq_false; omega))
theorem f50_ok {b1 b3 : Nat} {o1 o3 : Bool} {T : Int} {u : Fl} {v : AV} (h1 : (b1, .cells [.int .i64 T, v] o1) ∈ F) (h3 : (b3, .cells [.fn (.func 48) [] [.ptr (some (b1, 0))]] o3) ∈ F) : Pure tblW (.fn (.func 50) [] [.ptr (some (b3, 0))]) [.agg (flc u)] F (.bool (badF T u)) := by
  intro lo
  refine Fn.func (fn := af50) rfl rfl ?_
  (repeat' (first | (first | refine Wo.nil ?_ | refine Wd.nil ?_ | ((first | refine Wo.cons ?_ | refine Wd.cons ?_); (try refine W1.go rfl rfl ?_); ((first | refine k1 ?_ | refine k2 ?_ | (refine isCall ?_; first | refine W1.pureB rfl rfl (f48_ok (by assumption)) (fun _ => ?_) (fun _ => ?_) | refine W1.pureB rfl rfl (f51_ok (r := (u.lo, u.hi))) (fun _ => ?_) (fun _ => ?_)) | refine W1.auto ?_ | ((first | refine kA ?_ | refine kB ?_ | refine kC ?_ | refine kD ?_ | refine kE ?_ | refine kF ?_ | refine kG ?_); refine ⟨fun _ => ?_, fun _ => ?_⟩) | refine W1.alloc (fun _ _ => ?_) | refine W1.boxA rfl (fun _ _ => ?_)) <;> (try refine ⟨fun _ => rfl, ?_⟩)))) | (first | refine Ws.seq ?_ | refine Ws.region ?_ | refine Ws.draw (fun bd hbd => ?_) | refine Ws.cond rfl ?_ | refine Ws.skip ?_ | refine Ws.scope ?_ | refine Ws.block ?_ | refine Ws.exit ?_ | refine Ws.ret ?_)))
  rename_i b2 hb2
  have h1' : (b1, ABlk.cells [.int .i64 T, v] o1) ∈ (b2, ABlk.cells (flc u) true) :: F := List.mem_cons_of_mem _ h1
  (repeat' (first | (first | refine Wo.nil ?_ | refine Wd.nil ?_ | ((first | refine Wo.cons ?_ | refine Wd.cons ?_); (try refine W1.go rfl rfl ?_); ((first | refine k1 ?_ | refine k2 ?_ | (refine isCall ?_; first | refine W1.pureB rfl rfl (f48_ok (by assumption)) (fun _ => ?_) (fun _ => ?_) | refine W1.pureB rfl rfl (f51_ok (r := (u.lo, u.hi))) (fun _ => ?_) (fun _ => ?_)) | refine W1.auto ?_ | ((first | refine kA ?_ | refine kB ?_ | refine kC ?_ | refine kD ?_ | refine kE ?_ | refine kF ?_ | refine kG ?_); refine ⟨fun _ => ?_, fun _ => ?_⟩) | refine W1.alloc (fun _ _ => ?_) | refine W1.boxA rfl (fun _ _ => ?_)) <;> (try refine ⟨fun _ => rfl, ?_⟩)))) | (first | refine Ws.seq ?_ | refine Ws.region ?_ | refine Ws.draw (fun bd hbd => ?_) | refine Ws.cond rfl ?_ | refine Ws.skip ?_ | refine Ws.scope ?_ | refine Ws.block ?_ | refine Ws.exit ?_ | refine Ws.ret ?_)))
  all_goals (refine FnEnd.ret (F' := F) (vs := [_]) (by (first | refine ResF.tmp inW ?_ | refine ResF.cell rfl inF inP ?_); exact ResF.nil) inS ⟨?_, rfl⟩)
  all_goals ((try simp only [decide_eq_true_eq, decide_eq_false_iff_not, vr] at *); simp only [tupOf, AV.bool.injEq, badF]; symm; first | (apply decide_eq_true; omega) | (apply decide_eq_false; omega))
theorem f71_ok {p : Fl → Bool} {fs : List Fl} {fv v : AV} (hr : FRow F v fs) (hlen : fs.length ≤ 9223372036854775807) (hf : ∀ j, j < fs.length → Pure tblW fv [.agg (flc (gF fs j))] F (.bool (p (gF fs j)))) :
    Pure tblW (fnv 71) [v, fv] F (.int .i64 (idxOf p fs)) := by
  intro lo
  refine Fn.func (fn := af71) rfl rfl ?_
  (repeat' (first | (first | refine Wo.nil ?_ | refine Wd.nil ?_ | ((first | refine Wo.cons ?_ | refine Wd.cons ?_); (try refine W1.go rfl rfl ?_); ((first | refine k1 ?_ | refine k2 ?_ | (refine isDst 14 ?_; refine W1.iaddrF i hr rfl rfl rfl (by omega) (fun b o l own hm h0 h1 h2 h3 h4 h5 => ?_)) | (refine isDst 15 ?_; refine W1.load rfl hm h4 ?_) | (refine isLen ?_; refine W1.lenZ hr rfl ?_) | (refine isCall ?_; refine W1.pureB rfl rfl (hf _ (by omega)) (fun hp => ?_) (fun hp => ?_)) | refine W1.auto ?_ | ((first | refine kA ?_ | refine kB ?_ | refine kC ?_ | refine kD ?_ | refine kE ?_ | refine kF ?_ | refine kG ?_); refine ⟨fun _ => ?_, fun _ => ?_⟩) | refine W1.alloc (fun _ _ => ?_) | refine W1.boxA rfl (fun _ _ => ?_)) <;> (try refine ⟨fun _ => rfl, ?_⟩)))) | (first | refine Ws.seq ?_ | refine Ws.region ?_ | refine Ws.draw (fun bd hbd => ?_) | refine Ws.cond rfl ?_ | refine Ws.skip ?_ | refine Ws.scope ?_ | refine Ws.block ?_ | refine Ws.exit ?_ | refine Ws.ret ?_)))
  refine Ws.loopG (X := Nat) (fun i => [(0, v), (1, fv), (7, .int .i64 fs.length), (8, .int .i64 (i : Nat))]) (fun _ => F) (fun i => i ≤ fs.length ∧ ∀ j, j < i → p (gF fs j) = false) (fun i => fs.length - i) 0
    ⟨rfl, rfl, rfl, rfl, trivial⟩ inS ⟨Nat.zero_le _, fun j hj => absurd hj (Nat.not_lt_zero j)⟩ ?_
  rintro i B ⟨hi, hb⟩
  (repeat' (first | (first | refine Wo.nil ?_ | refine Wd.nil ?_ | ((first | refine Wo.cons ?_ | refine Wd.cons ?_); (try refine W1.go rfl rfl ?_); ((first | refine k1 ?_ | refine k2 ?_ | (refine isDst 14 ?_; refine W1.iaddrF i hr rfl rfl rfl (by omega) (fun b o l own hm h0 h1 h2 h3 h4 h5 => ?_)) | (refine isDst 15 ?_; refine W1.load rfl hm h4 ?_) | (refine isLen ?_; refine W1.lenZ hr rfl ?_) | (refine isCall ?_; refine W1.pureB rfl rfl (hf _ (by omega)) (fun hp => ?_) (fun hp => ?_)) | refine W1.auto ?_ | ((first | refine kA ?_ | refine kB ?_ | refine kC ?_ | refine kD ?_ | refine kE ?_ | refine kF ?_ | refine kG ?_); refine ⟨fun _ => ?_, fun _ => ?_⟩) | refine W1.alloc (fun _ _ => ?_) | refine W1.boxA rfl (fun _ _ => ?_)) <;> (try refine ⟨fun _ => rfl, ?_⟩)))) | (first | refine Ws.seq ?_ | refine Ws.region ?_ | refine Ws.draw (fun bd hbd => ?_) | refine Ws.cond rfl ?_ | refine Ws.skip ?_ | refine Ws.scope ?_ | refine Ws.block ?_ | refine Ws.exit ?_ | refine Ws.ret ?_)))
  · (refine FnEnd.ret (F' := F) (vs := [_]) (by (first | refine ResF.tmp inW ?_ | refine ResF.cell rfl inF inP ?_); exact ResF.nil) inS ⟨?_, rfl⟩)
    show AV.int .i64 _ = _
    rw [idxOf_found (z := default) (by omega) hp hb]
  · refine ⟨i + 1, ⟨rfl, rfl, rfl, rfl, trivial⟩, inS, ⟨by omega, fun j hj => ?_⟩, by omega⟩
    rcases Nat.lt_succ_iff_lt_or_eq.1 hj with h | rfl
    · exact hb j h
    · exact hp
  · (refine FnEnd.ret (F' := F) (vs := [_]) (by (first | refine ResF.tmp inW ?_ | refine ResF.cell rfl inF inP ?_); exact ResF.nil) inS ⟨?_, rfl⟩)
    show AV.int .i64 _ = _
    rw [idxOf_none (z := default) (fun j hj => hb j (by omega))]
theorem f49_ok {p : Fl → Bool} {fs : List Fl} {fv v : AV} (hr : FRow F v fs) (hlen : fs.length ≤ 9223372036854775807) (hf : ∀ j, j < fs.length → Pure tblW fv [.agg (flc (gF fs j))] F (.bool (p (gF fs j)))) :
    Pure tblW (fnv 49) [v, fv] F (.bool (fs.any p)) := by
  intro lo
  refine Fn.func (fn := af49) rfl rfl ?_
  have hi := idxOf_any p fs
  (repeat' (first | (first | refine Wo.nil ?_ | refine Wd.nil ?_ | ((first | refine Wo.cons ?_ | refine Wd.cons ?_); (try refine W1.go rfl rfl ?_); ((first | refine k1 ?_ | refine k2 ?_ | (refine isCall ?_; refine W1.pure rfl rfl (f71_ok (p := p) hr hlen hf) ?_) | refine W1.auto ?_ | ((first | refine kA ?_ | refine kB ?_ | refine kC ?_ | refine kD ?_ | refine kE ?_ | refine kF ?_ | refine kG ?_); refine ⟨fun _ => ?_, fun _ => ?_⟩) | refine W1.alloc (fun _ _ => ?_) | refine W1.boxA rfl (fun _ _ => ?_)) <;> (try refine ⟨fun _ => rfl, ?_⟩)))) | (first | refine Ws.seq ?_ | refine Ws.region ?_ | refine Ws.draw (fun bd hbd => ?_) | refine Ws.cond rfl ?_ | refine Ws.skip ?_ | refine Ws.scope ?_ | refine Ws.block ?_ | refine Ws.exit ?_ | refine Ws.ret ?_)))
  all_goals (refine FnEnd.ret (F' := F) (vs := [_]) (by (first | refine ResF.tmp inW ?_ | refine ResF.cell rfl inF inP ?_); exact ResF.nil) inS ⟨?_, rfl⟩)
  · have : fs.any p = true := hi.1 (by assumption)
    rw [this]; rfl
  · have : ¬ fs.any p = true := fun h => by have := hi.2 h; omega
    rw [Bool.not_eq_true] at this
    rw [this]; rfl
abbrev netV (T : Int) (v : AV) : AV := .agg [.int .i64 T, v]
theorem FRow.cells {F : Hp} {v : AV} {fs : List Fl} (h : FRow F v fs) : v.cells = some [v] := RowZ.cell h
theorem f19_ok {T : Int} {fs : List Fl} {v : AV} (hr : FRow F v fs) (hl : fs.length ≤ 9223372036854775807) : Pure tblW (fnv 19) [netV T v] F (.int .i64 (chkN T fs)) := by
  intro lo
  refine Fn.func (fn := af19) rfl rfl ?_
  unfold chkN
  (repeat' (first | (first | refine Wo.nil ?_ | refine Wd.nil ?_ | ((first | refine Wo.cons ?_ | refine Wd.cons ?_); (try refine W1.go rfl rfl ?_); ((first | refine k1 ?_ | refine k2 ?_ | (refine isDst 1 ?_; refine W1.boxA rfl (fun b1 hb1 => ?_)) | (refine isDst 3 ?_; refine W1.alloc (fun b3 hb3 => ?_)) | (refine isLen ?_; refine W1.lenZ hr.cons.cons rfl ?_) | (refine isCall ?_; refine W1.pureB rfl rfl (f49_ok (p := badF T) hr.cons.cons hl (fun j hj => f50_ok (List.mem_cons_of_mem _ (List.mem_cons_self ..)) (List.mem_cons_self ..))) (fun hp => ?_) (fun hp => ?_)) | refine W1.auto ?_ | ((first | refine kA ?_ | refine kB ?_ | refine kC ?_ | refine kD ?_ | refine kE ?_ | refine kF ?_ | refine kG ?_); refine ⟨fun _ => ?_, fun _ => ?_⟩) | refine W1.alloc (fun _ _ => ?_) | refine W1.boxA rfl (fun _ _ => ?_)) <;> (try refine ⟨fun _ => rfl, ?_⟩)))) | (first | refine Ws.seq ?_ | refine Ws.region ?_ | refine Ws.draw (fun bd hbd => ?_) | refine Ws.cond rfl ?_ | refine Ws.skip ?_ | refine Ws.scope ?_ | refine Ws.block ?_ | refine Ws.exit ?_ | refine Ws.ret ?_)))
  · (refine FnEnd.ret (F' := F) (vs := [_]) (by (first | refine ResF.tmp inW ?_ | refine ResF.cell rfl inF inP ?_); exact ResF.nil) inS ⟨?_, rfl⟩)
    show AV.int .i64 _ = _
    rw [if_pos (by omega)]
  · (refine FnEnd.ret (F' := F) (vs := [_]) (by (first | refine ResF.tmp inW ?_ | refine ResF.cell rfl inF inP ?_); exact ResF.nil) inS ⟨?_, rfl⟩)
    show AV.int .i64 _ = _
    rw [if_pos (by omega)]
  · (refine FnEnd.ret (F' := F) (vs := [_]) (by (first | refine ResF.tmp inW ?_ | refine ResF.cell rfl inF inP ?_); exact ResF.nil) inS ⟨?_, rfl⟩)
    show AV.int .i64 _ = _
    rw [if_neg (by omega), if_pos (by omega)]
  · (refine FnEnd.ret (F' := F) (vs := [_]) (by (first | refine ResF.tmp inW ?_ | refine ResF.cell rfl inF inP ?_); exact ResF.nil) inS ⟨?_, rfl⟩)
    show AV.int .i64 _ = _
    rw [if_neg (by omega), if_neg (by omega), if_pos hp]
  · (refine FnEnd.ret (F' := F) (vs := [_]) (by (first | refine ResF.tmp inW ?_ | refine ResF.cell rfl inF inP ?_); exact ResF.nil) inS ⟨?_, rfl⟩)
    show AV.int .i64 _ = _
    rw [if_neg (by omega), if_neg (by omega), if_neg (by rw [hp]; simp)]
theorem f20_ok {T : Int} {fs : List Fl} {v : AV} (hr : FRow F v fs) (hl : fs.length ≤ 9223372036854775807) : Pure tblW (fnv 20) [netV T v] F (.int .i64 (chkN T fs)) := by
  intro lo
  refine Fn.func (fn := af20) rfl rfl ?_
  unfold chkN
  (repeat' (first | (first | refine Wo.nil ?_ | refine Wd.nil ?_ | ((first | refine Wo.cons ?_ | refine Wd.cons ?_); (try refine W1.go rfl rfl ?_); ((first | refine k1 ?_ | refine k2 ?_ | (refine isDst 1 ?_; refine W1.boxA rfl (fun b1 hb1 => ?_)) | (refine isDst 3 ?_; refine W1.alloc (fun b3 hb3 => ?_)) | (refine isDst 15 ?_; refine W1.lenZ hr.cons rfl ?_) | (refine isDst 20 ?_; refine W1.lenZ hr' rfl ?_) | (refine isDst 21 ?_; refine W1.cO ?_) | (refine isDst 27 ?_; refine W1.iaddrF i hr' rfl rfl rfl hic (fun b o l own hm h0 h1 h2 h3 h4 h5 => ?_)) | (refine isDst 28 ?_; refine W1.load rfl hm h4 ?_) | (refine isCall ?_; refine W1.pureB rfl rfl (f52_ok (r := ((gF fs i).lo, (gF fs i).hi))) (fun _ => ?_) (fun _ => ?_)) | refine W1.auto ?_ | ((first | refine kA ?_ | refine kB ?_ | refine kC ?_ | refine kD ?_ | refine kE ?_ | refine kF ?_ | refine kG ?_); refine ⟨fun _ => ?_, fun _ => ?_⟩) | refine W1.alloc (fun _ _ => ?_) | refine W1.boxA rfl (fun _ _ => ?_)) <;> (try refine ⟨fun _ => rfl, ?_⟩)))) | (first | refine Ws.seq ?_ | refine Ws.region ?_ | refine Ws.draw (fun bd hbd => ?_) | refine Ws.cond rfl ?_ | refine Ws.skip ?_ | refine Ws.scope ?_ | refine Ws.block ?_ | refine Ws.exit ?_ | refine Ws.ret ?_)))
  · (refine FnEnd.ret (F' := F) (vs := [_]) (by (first | refine ResF.tmp inW ?_ | refine ResF.cell rfl inF inP ?_); exact ResF.nil) inS ⟨?_, rfl⟩)
    show AV.int .i64 _ = _
    rw [if_pos (by omega)]
  · (refine FnEnd.ret (F' := F) (vs := [_]) (by (first | refine ResF.tmp inW ?_ | refine ResF.cell rfl inF inP ?_); exact ResF.nil) inS ⟨?_, rfl⟩)
    show AV.int .i64 _ = _
    rw [if_pos (by omega)]
  · (refine FnEnd.ret (F' := F) (vs := [_]) (by (first | refine ResF.tmp inW ?_ | refine ResF.cell rfl inF inP ?_); exact ResF.nil) inS ⟨?_, rfl⟩)
    show AV.int .i64 _ = _
    rw [if_neg (by omega), if_pos (by omega)]
  rw [if_neg (by omega), if_neg (by omega)]
  have hr' : FRow ((b1, ABlk.cells [AV.int .i64 T, v] true) :: F) v fs := hr.cons
  refine Ws.loopG (X := Nat) (fun i => (3, .int .i64 (i : Nat)) :: [(1, .ptr (some (b1, 0)))]) (fun _ => (b1, ABlk.cells [AV.int .i64 T, v] true) :: F) (fun i => i ≤ fs.length ∧ ∀ j, j < i → badF T (gF fs j) = false) (fun i => fs.length - i) 0 ⟨rfl, rfl, trivial⟩ (List.Sublist.refl _) ⟨Nat.zero_le _, fun j hj => absurd hj (Nat.not_lt_zero j)⟩ ?_
  rintro i B2 ⟨hi, hb⟩
  by_cases hic : i < fs.length
  · have hany : badF T (gF fs i) = true → fs.any (badF T) = true := fun h => (any_getD _ _ default).2 ⟨i, hic, h⟩
    (repeat' (first | (first | refine Wo.nil ?_ | refine Wd.nil ?_ | ((first | refine Wo.cons ?_ | refine Wd.cons ?_); (try refine W1.go rfl rfl ?_); ((first | refine k1 ?_ | refine k2 ?_ | (refine isDst 1 ?_; refine W1.boxA rfl (fun b1 hb1 => ?_)) | (refine isDst 3 ?_; refine W1.alloc (fun b3 hb3 => ?_)) | (refine isDst 15 ?_; refine W1.lenZ hr.cons rfl ?_) | (refine isDst 20 ?_; refine W1.lenZ hr' rfl ?_) | (refine isDst 21 ?_; refine W1.cO ?_) | (refine isDst 27 ?_; refine W1.iaddrF i hr' rfl rfl rfl hic (fun b o l own hm h0 h1 h2 h3 h4 h5 => ?_)) | (refine isDst 28 ?_; refine W1.load rfl hm h4 ?_) | (refine isCall ?_; refine W1.pureB rfl rfl (f52_ok (r := ((gF fs i).lo, (gF fs i).hi))) (fun _ => ?_) (fun _ => ?_)) | refine W1.auto ?_ | ((first | refine kA ?_ | refine kB ?_ | refine kC ?_ | refine kD ?_ | refine kE ?_ | refine kF ?_ | refine kG ?_); refine ⟨fun _ => ?_, fun _ => ?_⟩) | refine W1.alloc (fun _ _ => ?_) | refine W1.boxA rfl (fun _ _ => ?_)) <;> (try refine ⟨fun _ => rfl, ?_⟩)))) | (first | refine Ws.seq ?_ | refine Ws.region ?_ | refine Ws.draw (fun bd hbd => ?_) | refine Ws.cond rfl ?_ | refine Ws.skip ?_ | refine Ws.scope ?_ | refine Ws.block ?_ | refine Ws.exit ?_ | refine Ws.ret ?_)))
    · rw [if_pos (hany (decide_eq_true (by (try simp only [decide_eq_true_eq, decide_eq_false_iff_not, vr] at *); omega)))]; (refine FnEnd.ret (F' := F) (vs := [_]) (by (first | refine ResF.tmp inW ?_ | refine ResF.cell rfl inF inP ?_); exact ResF.nil) inS ⟨?_, rfl⟩); rfl
    · rw [if_pos (hany (decide_eq_true (by (try simp only [decide_eq_true_eq, decide_eq_false_iff_not, vr] at *); omega)))]; (refine FnEnd.ret (F' := F) (vs := [_]) (by (first | refine ResF.tmp inW ?_ | refine ResF.cell rfl inF inP ?_); exact ResF.nil) inS ⟨?_, rfl⟩); rfl
    · rw [if_pos (hany (decide_eq_true (by (try simp only [decide_eq_true_eq, decide_eq_false_iff_not, vr] at *); omega)))]; (refine FnEnd.ret (F' := F) (vs := [_]) (by (first | refine ResF.tmp inW ?_ | refine ResF.cell rfl inF inP ?_); exact ResF.nil) inS ⟨?_, rfl⟩); rfl
    · rw [if_pos (hany (decide_eq_true (by (try simp only [decide_eq_true_eq, decide_eq_false_iff_not, vr] at *); omega)))]; (refine FnEnd.ret (F' := F) (vs := [_]) (by (first | refine ResF.tmp inW ?_ | refine ResF.cell rfl inF inP ?_); exact ResF.nil) inS ⟨?_, rfl⟩); rfl
    · rw [if_pos (hany (decide_eq_true (by (try simp only [decide_eq_true_eq, decide_eq_false_iff_not, vr] at *); omega)))]; (refine FnEnd.ret (F' := F) (vs := [_]) (by (first | refine ResF.tmp inW ?_ | refine ResF.cell rfl inF inP ?_); exact ResF.nil) inS ⟨?_, rfl⟩); rfl
    · refine ⟨i + 1, ⟨rfl, rfl, trivial⟩, inS, ⟨hic, fun j hj => ?_⟩, by show _ - (i + 1) < _ - i; omega⟩
      rcases Nat.lt_succ_iff_lt_or_eq.1 hj with hj | rfl
      · exact hb j hj
      · exact decide_eq_false (by (try simp only [decide_eq_true_eq, decide_eq_false_iff_not, vr] at *); omega)
    · rw [if_pos (hany (decide_eq_true (by (try simp only [decide_eq_true_eq, decide_eq_false_iff_not, vr] at *); omega)))]; (refine FnEnd.ret (F' := F) (vs := [_]) (by (first | refine ResF.tmp inW ?_ | refine ResF.cell rfl inF inP ?_); exact ResF.nil) inS ⟨?_, rfl⟩); rfl
  · have hno : fs.any (badF T) = false := (any_false_getD _ _ default).2 fun j hj => hb j (by omega)
    rw [hno, if_neg (by simp)]
    (repeat' (first | (first | refine Wo.nil ?_ | refine Wd.nil ?_ | ((first | refine Wo.cons ?_ | refine Wd.cons ?_); (try refine W1.go rfl rfl ?_); ((first | refine k1 ?_ | refine k2 ?_ | (refine isDst 1 ?_; refine W1.boxA rfl (fun b1 hb1 => ?_)) | (refine isDst 3 ?_; refine W1.alloc (fun b3 hb3 => ?_)) | (refine isDst 15 ?_; refine W1.lenZ hr.cons rfl ?_) | (refine isDst 20 ?_; refine W1.lenZ hr' rfl ?_) | (refine isDst 21 ?_; refine W1.cO ?_) | (refine isDst 27 ?_; refine W1.iaddrF i hr' rfl rfl rfl hic (fun b o l own hm h0 h1 h2 h3 h4 h5 => ?_)) | (refine isDst 28 ?_; refine W1.load rfl hm h4 ?_) | (refine isCall ?_; refine W1.pureB rfl rfl (f52_ok (r := ((gF fs i).lo, (gF fs i).hi))) (fun _ => ?_) (fun _ => ?_)) | refine W1.auto ?_ | ((first | refine kA ?_ | refine kB ?_ | refine kC ?_ | refine kD ?_ | refine kE ?_ | refine kF ?_ | refine kG ?_); refine ⟨fun _ => ?_, fun _ => ?_⟩) | refine W1.alloc (fun _ _ => ?_) | refine W1.boxA rfl (fun _ _ => ?_)) <;> (try refine ⟨fun _ => rfl, ?_⟩)))) | (first | refine Ws.seq ?_ | refine Ws.region ?_ | refine Ws.draw (fun bd hbd => ?_) | refine Ws.cond rfl ?_ | refine Ws.skip ?_ | refine Ws.scope ?_ | refine Ws.block ?_ | refine Ws.exit ?_ | refine Ws.ret ?_)))
    (refine FnEnd.ret (F' := F) (vs := [_]) (by (first | refine ResF.tmp inW ?_ | refine ResF.cell rfl inF inP ?_); exact ResF.nil) inS ⟨?_, rfl⟩)
    rfl
end Go.Ax
