/-
  Contracts: what a plan costs, by the reference.
-/
import Derived.Test.YtmhbmnonichopaaXO8
namespace Go.Ax
set_option maxHeartbeats 4000000
set_option linter.unusedSimpArgs false
set_option linter.unusedVariables false
variable {lo : Nat} {F : Hp}

theorem f19_ok {k : K} {sv cv pv : AV} {plan : List Int} (h : KVal F k sv cv) (hp : RowI F pv plan) (hlp : plan.length ≤ 9223372036854775807) : Pure tblW (fnv 19) [.agg (kl k sv cv), pv] F (.tup [.int .i64 (cpv k plan).1, .int .i64 (cpv k plan).2]) := by
  intro lo
  have hk := h
  obtain ⟨hs, hc, hls, hlc⟩ := h
  refine Fn.func (fn := af19) rfl rfl ?_
  (repeat' (first | (first | refine Wo.nil ?_ | refine Wd.nil ?_ | ((first | refine Wo.cons ?_ | refine Wd.cons ?_); (try refine W1.go rfl rfl ?_); ((first | refine k1 ?_ | refine k2 ?_ | (refine isCall ?_; first | refine W1.pure rfl rfl (f21_ok (by repeat (first | assumption | apply KVal.cons))) ?_ | refine W1.callM rfl rfl ((f44_ok (by repeat (first | assumption | apply KVal.cons)) (Vk.of (by assumption))).mono fun v F' h => ?_)) | refine W1.auto ?_ | ((first | refine kA ?_ | refine kB ?_ | refine kC ?_ | refine kD ?_ | refine kE ?_ | refine kF ?_ | refine kG ?_); refine ⟨fun _ => ?_, fun _ => ?_⟩) | refine W1.alloc (fun _ _ => ?_) | refine W1.boxA rfl (fun _ _ => ?_) | refine kq (fun _ _ => ?_) | refine kp ?_ | (refine isIaddrs ?_; first | refine W1.iaddrI inI rfl rfl (by omega) (fun _ _ _ _ _ _ => ?_) | refine W1.iaddrR inR rfl rfl (by omega) (fun _ _ _ _ _ _ _ => ?_)) | (refine isBox ?_; refine W1.boxS inW (by rfl) (fun _ _ => ?_)) | (refine isBslice ?_; refine W1.bslice (fill_all inC rfl) (fun _ _ => ?_))) <;> (try refine ⟨fun _ => rfl, ?_⟩)))) | (first | refine Ws.seq ?_ | refine Ws.region ?_ | refine Ws.draw (fun bd hbd => ?_) | refine Ws.cond rfl ?_ | refine Ws.skip ?_ | refine Ws.scope ?_ | refine Ws.block ?_ | refine Ws.exit ?_ | refine Ws.ret ?_)))
  · (refine FnEnd.ret (F' := F) (vs := [_, _]) (by (first | refine ResF.tmp inW ?_ | refine ResF.cell rfl inF inP ?_); (first | refine ResF.tmp inW ?_ | refine ResF.cell rfl inF inP ?_); exact ResF.nil) inS ⟨?_, rfl⟩)
    have e : cpv k plan = (0, chk k) := if_pos (by assumption)
    rw [e]
    rfl
  · (refine FnEnd.ret (F' := F) (vs := [_, _]) (by (first | refine ResF.tmp inW ?_ | refine ResF.cell rfl inF inP ?_); (first | refine ResF.tmp inW ?_ | refine ResF.cell rfl inF inP ?_); exact ResF.nil) inS ⟨?_, rfl⟩)
    have e : cpv k plan = (0, 15) := by unfold cpv; rw [if_neg (by omega), if_pos (by omega)]
    rw [e]
    rfl
  rename_i b0 hb0 hchk hlen
  refine Ws.loopG (X := Nat) (fun i => [(1, pv), (2, .ptr (some (b0, 0))), (6, .int .i64 (i : Nat))]) (fun _ => (b0, .cells (kl k sv cv) true) :: F) (fun i => i ≤ plan.length ∧ ∀ j, j < i → 0 ≤ plan.getD j 0 ∧ plan.getD j 0 ≤ k.most) (fun i => plan.length - i) 0
    ⟨rfl, rfl, rfl, trivial⟩ inS ⟨Nat.zero_le _, fun j hj => absurd hj (Nat.not_lt_zero j)⟩ ?_
  rintro i B ⟨hi, hb⟩
  (repeat' (first | (first | refine Wo.nil ?_ | refine Wd.nil ?_ | ((first | refine Wo.cons ?_ | refine Wd.cons ?_); (try refine W1.go rfl rfl ?_); ((first | refine k1 ?_ | refine k2 ?_ | (refine isCall ?_; first | refine W1.pure rfl rfl (f21_ok (by repeat (first | assumption | apply KVal.cons))) ?_ | refine W1.callM rfl rfl ((f44_ok (by repeat (first | assumption | apply KVal.cons)) (Vk.of (by assumption))).mono fun v F' h => ?_)) | refine W1.auto ?_ | ((first | refine kA ?_ | refine kB ?_ | refine kC ?_ | refine kD ?_ | refine kE ?_ | refine kF ?_ | refine kG ?_); refine ⟨fun _ => ?_, fun _ => ?_⟩) | refine W1.alloc (fun _ _ => ?_) | refine W1.boxA rfl (fun _ _ => ?_) | refine kq (fun _ _ => ?_) | refine kp ?_ | (refine isIaddrs ?_; first | refine W1.iaddrI inI rfl rfl (by omega) (fun _ _ _ _ _ _ => ?_) | refine W1.iaddrR inR rfl rfl (by omega) (fun _ _ _ _ _ _ _ => ?_)) | (refine isBox ?_; refine W1.boxS inW (by rfl) (fun _ _ => ?_)) | (refine isBslice ?_; refine W1.bslice (fill_all inC rfl) (fun _ _ => ?_))) <;> (try refine ⟨fun _ => rfl, ?_⟩)))) | (first | refine Ws.seq ?_ | refine Ws.region ?_ | refine Ws.draw (fun bd hbd => ?_) | refine Ws.cond rfl ?_ | refine Ws.skip ?_ | refine Ws.scope ?_ | refine Ws.block ?_ | refine Ws.exit ?_ | refine Ws.ret ?_)))
  all_goals (try (
    (refine FnEnd.ret (F' := F) (vs := [_, _]) (by (first | refine ResF.tmp inW ?_ | refine ResF.cell rfl inF inP ?_); (first | refine ResF.tmp inW ?_ | refine ResF.cell rfl inF inP ?_); exact ResF.nil) inS ⟨?_, rfl⟩)
    have e : cpv k plan = (0, 3) := by
      unfold cpv
      rw [if_neg (by omega), if_neg (by omega)]
      exact if_pos ((any_getD _ plan 0).2 ⟨i, by omega, by simp only [decide_eq_true_eq]; omega⟩)
    rw [e]
    rfl))
  · refine ⟨i + 1, ⟨rfl, rfl, rfl, trivial⟩, inS, ⟨by omega, fun j hj => ?_⟩, by omega⟩
    rcases Nat.lt_succ_iff_lt_or_eq.1 hj with h | rfl
    · exact hb j h
    · exact ⟨by assumption, by assumption⟩
  have hoff : offPlan k plan = false := (any_false_getD _ plan 0).2 fun j hj => by have := hb j (by omega); simp only [decide_eq_false_iff_not]; omega
  obtain ⟨Fo, ho, rfl⟩ := h
  have hv := Vk.of hchk
  have h7 := hv.n2
  have hn3 := hv.n3
  have hov : RowR (Fo ++ ((b0, .cells (kl k sv cv) true) :: F)) v (bnds k k.sales.length) := ho.rowR (List.subset_append_left _ _)
  have hbl := bnds_len k k.sales.length
  have hP0 : cpv k plan = cpg k plan 0 (k.sales.length - 0) := by
    unfold cpv
    rw [if_neg (by omega), if_neg (by omega)]
    exact if_neg (by rw [hoff]; decide)
  (repeat' (first | (first | refine Wo.nil ?_ | refine Wd.nil ?_ | ((first | refine Wo.cons ?_ | refine Wd.cons ?_); (try refine W1.go rfl rfl ?_); ((first | refine k1 ?_ | refine k2 ?_ | (refine isCall ?_; first | refine W1.pure rfl rfl (f21_ok (by repeat (first | assumption | apply KVal.cons))) ?_ | refine W1.callM rfl rfl ((f44_ok (by repeat (first | assumption | apply KVal.cons)) (Vk.of (by assumption))).mono fun v F' h => ?_)) | refine W1.auto ?_ | ((first | refine kA ?_ | refine kB ?_ | refine kC ?_ | refine kD ?_ | refine kE ?_ | refine kF ?_ | refine kG ?_); refine ⟨fun _ => ?_, fun _ => ?_⟩) | refine W1.alloc (fun _ _ => ?_) | refine W1.boxA rfl (fun _ _ => ?_) | refine kq (fun _ _ => ?_) | refine kp ?_ | (refine isIaddrs ?_; first | refine W1.iaddrI inI rfl rfl (by omega) (fun _ _ _ _ _ _ => ?_) | refine W1.iaddrR inR rfl rfl (by omega) (fun _ _ _ _ _ _ _ => ?_)) | (refine isBox ?_; refine W1.boxS inW (by rfl) (fun _ _ => ?_)) | (refine isBslice ?_; refine W1.bslice (fill_all inC rfl) (fun _ _ => ?_))) <;> (try refine ⟨fun _ => rfl, ?_⟩)))) | (first | refine Ws.seq ?_ | refine Ws.region ?_ | refine Ws.draw (fun bd hbd => ?_) | refine Ws.cond rfl ?_ | refine Ws.skip ?_ | refine Ws.scope ?_ | refine Ws.block ?_ | refine Ws.exit ?_ | refine Ws.ret ?_)))
  refine Ws.loopG (X := Nat) (fun i => [(1, pv), (2, .ptr (some (b0, 0))), (7, v), (10, .int .i64 (i : Nat)), (8, .int .i64 (pl plan i)), (9, .int .i64 (pc k plan i))])
    (fun _ => Fo ++ ((b0, .cells (kl k sv cv) true) :: F)) (fun i => i ≤ k.sales.length ∧ cpv k plan = cpg k plan i (k.sales.length - i)) (fun i => k.sales.length - i) 0
    ⟨rfl, rfl, rfl, rfl, rfl, rfl, trivial⟩ inS ⟨Nat.zero_le _, hP0⟩ ?_
  clear hi hb
  rintro i B ⟨hi, hP⟩
  have i1 := pl_in hv hoff i (by omega)
  have i2 := pc_in hv hoff (by omega) i (by omega)
  have i3 : i < k.sales.length → _ := fun h => on_plan hoff (show i < plan.length by omega)
  have i4 : i < k.sales.length → _ := fun h => day_cost hv hoff (by omega) (show i < plan.length by omega)
  have i5 := hv.most2
  have e1 : i < k.sales.length → ((bnds k k.sales.length).getD i (0, 0)).1 = nd k i := fun h => by rw [bnds_get k h]
  have e2 : i < k.sales.length → ((bnds k k.sales.length).getD i (0, 0)).2 = rm k i := fun h => by rw [bnds_get k h]
  (repeat' (first | (first | refine Wo.nil ?_ | refine Wd.nil ?_ | ((first | refine Wo.cons ?_ | refine Wd.cons ?_); (try refine W1.go rfl rfl ?_); ((first | refine k1 ?_ | refine k2 ?_ | (refine isCall ?_; first | refine W1.pure rfl rfl (f21_ok (by repeat (first | assumption | apply KVal.cons))) ?_ | refine W1.callM rfl rfl ((f44_ok (by repeat (first | assumption | apply KVal.cons)) (Vk.of (by assumption))).mono fun v F' h => ?_)) | refine W1.auto ?_ | ((first | refine kA ?_ | refine kB ?_ | refine kC ?_ | refine kD ?_ | refine kE ?_ | refine kF ?_ | refine kG ?_); refine ⟨fun _ => ?_, fun _ => ?_⟩) | refine W1.alloc (fun _ _ => ?_) | refine W1.boxA rfl (fun _ _ => ?_) | refine kq (fun _ _ => ?_) | refine kp ?_ | (refine isIaddrs ?_; first | refine W1.iaddrI inI rfl rfl (by omega) (fun _ _ _ _ _ _ => ?_) | refine W1.iaddrR inR rfl rfl (by omega) (fun _ _ _ _ _ _ _ => ?_)) | (refine isBox ?_; refine W1.boxS inW (by rfl) (fun _ _ => ?_)) | (refine isBslice ?_; refine W1.bslice (fill_all inC rfl) (fun _ _ => ?_))) <;> (try refine ⟨fun _ => rfl, ?_⟩)))) | (first | refine Ws.seq ?_ | refine Ws.region ?_ | refine Ws.draw (fun bd hbd => ?_) | refine Ws.cond rfl ?_ | refine Ws.skip ?_ | refine Ws.scope ?_ | refine Ws.block ?_ | refine Ws.exit ?_ | refine Ws.ret ?_)))
  · (refine FnEnd.ret (F' := F) (vs := [_, _]) (by (first | refine ResF.tmp inW ?_ | refine ResF.cell rfl inF inP ?_); (first | refine ResF.tmp inW ?_ | refine ResF.cell rfl inF inP ?_); exact ResF.nil) inS ⟨?_, rfl⟩)
    rw [hP, cpg_step k plan (by omega), if_pos (by have := e2 (by omega); omega)]
    rfl
  · (refine FnEnd.ret (F' := F) (vs := [_, _]) (by (first | refine ResF.tmp inW ?_ | refine ResF.cell rfl inF inP ?_); (first | refine ResF.tmp inW ?_ | refine ResF.cell rfl inF inP ?_); exact ResF.nil) inS ⟨?_, rfl⟩)
    rw [hP, cpg_step k plan (by omega), if_neg (by have := e2 (by omega); omega), if_pos (by have := e1 (by omega); omega)]
    rfl
  · refine ⟨i + 1, ⟨rfl, rfl, rfl, rfl, rfl, rfl, trivial⟩, inS, ⟨by omega, ?_⟩, by omega⟩
    rw [hP, cpg_step k plan (by omega), if_neg (by have := e2 (by omega); omega), if_neg (by have := e1 (by omega); omega)]
  · (refine FnEnd.ret (F' := F) (vs := [_, _]) (by (first | refine ResF.tmp inW ?_ | refine ResF.cell rfl inF inP ?_); (first | refine ResF.tmp inW ?_ | refine ResF.cell rfl inF inP ?_); exact ResF.nil) inS ⟨?_, rfl⟩)
    rw [hP, show k.sales.length - i = 0 by omega]
    rfl
end Go.Ax
