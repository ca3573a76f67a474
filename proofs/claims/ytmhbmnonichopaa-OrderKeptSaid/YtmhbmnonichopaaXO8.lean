/-
  Contracts: what a plan costs.
-/
import Derived.Test.YtmhbmnonichopaaXO6
namespace Go.Ax
set_option maxHeartbeats 4000000
set_option linter.unusedSimpArgs false
set_option linter.unusedVariables false
variable {lo : Nat} {F : Hp}

def pl (plan : List Int) : Nat → Int
  | 0 => 0
  | d + 1 => pl plan d + plan.getD d 0
def pc (k : K) (plan : List Int) : Nat → Int
  | 0 => 0
  | d + 1 => pc k plan d + plan.getD d 0 * k.costs.getD d 0
/-- from the d-th day on, m days -/
def cpg (k : K) (plan : List Int) : Nat → Nat → Int × Int
  | d, 0 => (pc k plan d, 0)
  | d, m + 1 => if rm k d < pl plan (d + 1) then (0, 10) else if pl plan (d + 1) < nd k d then (0, 20) else cpg k plan (d + 1) m
def offPlan (k : K) (plan : List Int) : Bool := plan.any fun x => decide (x < 0 ∨ k.most < x)
def cpv (k : K) (plan : List Int) : Int × Int :=
  if chk k ≠ 0 then (0, chk k) else if plan.length ≠ k.sales.length then (0, 15) else if offPlan k plan = true then (0, 3) else cpg k plan 0 k.sales.length
theorem on_plan {k : K} {plan : List Int} (h : offPlan k plan = false) {j : Nat} (hj : j < plan.length) : 0 ≤ plan.getD j 0 ∧ plan.getD j 0 ≤ k.most := by
  have := (any_false_getD _ plan 0).1 h j hj
  simp only [decide_eq_false_iff_not] at this
  omega
theorem pl_in {k : K} {plan : List Int} (hv : Vk k) (h : offPlan k plan = false) : ∀ d, d ≤ plan.length → 0 ≤ pl plan d ∧ pl plan d ≤ 10 * d
  | 0, _ => by simp [pl]
  | d + 1, hd => by
    have := pl_in hv h d (by omega)
    have := on_plan h (show d < plan.length by omega)
    have := hv.most2
    simp only [pl]
    omega
theorem day_cost {k : K} {plan : List Int} (hv : Vk k) (h : offPlan k plan = false) (hl : plan.length = k.sales.length) {d : Nat} (hd : d < plan.length) : 0 ≤ plan.getD d 0 * k.costs.getD d 0 ∧ plan.getD d 0 * k.costs.getD d 0 ≤ 1000000 := by
  have h1 := on_plan h hd
  have h2 := hv.cost d (by omega)
  have h3 := hv.most2
  constructor
  · exact Int.mul_nonneg h1.1 h2.1
  · calc plan.getD d 0 * k.costs.getD d 0 ≤ 10 * 100000 := Int.mul_le_mul (by omega) h2.2 h2.1 (by omega)
      _ = 1000000 := by decide
theorem pc_in {k : K} {plan : List Int} (hv : Vk k) (h : offPlan k plan = false) (hl : plan.length = k.sales.length) : ∀ d, d ≤ plan.length → 0 ≤ pc k plan d ∧ pc k plan d ≤ 1000000 * d
  | 0, _ => by simp [pc]
  | d + 1, hd => by
    have := pc_in hv h hl d (by omega)
    have := day_cost hv h hl (show d < plan.length by omega)
    simp only [pc]
    omega

theorem cpg_step (k : K) (plan : List Int) {d n : Nat} (h : d < n) : cpg k plan d (n - d) = if rm k d < pl plan d + plan.getD d 0 then (0, 10) else if pl plan d + plan.getD d 0 < nd k d then (0, 20) else cpg k plan (d + 1) (n - (d + 1)) := by
  rw [show n - d = (n - (d + 1)) + 1 by omega]
  rfl
theorem f18_ok {k : K} {sv cv pv : AV} {plan : List Int} (h : KVal F k sv cv) (hp : RowI F pv plan) (hlp : plan.length ≤ 9223372036854775807) : Pure tblW (fnv 18) [.agg (kl k sv cv), pv] F (.tup [.int .i64 (cpv k plan).1, .int .i64 (cpv k plan).2]) := by
  intro lo
  have hk := h
  obtain ⟨hs, hc, hls, hlc⟩ := h
  refine Fn.func (fn := af18) rfl rfl ?_
  (repeat' (first | (first | refine Wo.nil ?_ | refine Wd.nil ?_ | ((first | refine Wo.cons ?_ | refine Wd.cons ?_); (try refine W1.go rfl rfl ?_); ((first | refine k1 ?_ | refine k2 ?_ | (refine isCall ?_; first | refine W1.pure rfl rfl (f20_ok (by repeat (first | assumption | apply KVal.cons))) ?_ | refine W1.pureB rfl rfl (f45_ok (p := fun x => decide (x < 0 ∨ k.most < x)) inI hlp (fun _ _ => f46_ok inF)) (fun _ => ?_) (fun _ => ?_) | refine W1.callM rfl rfl ((f43_ok (by repeat (first | assumption | apply KVal.cons)) (Vk.of (by assumption))).mono fun v F' h => ?_)) | refine W1.auto ?_ | ((first | refine kA ?_ | refine kB ?_ | refine kC ?_ | refine kD ?_ | refine kE ?_ | refine kF ?_ | refine kG ?_); refine ⟨fun _ => ?_, fun _ => ?_⟩) | refine W1.alloc (fun _ _ => ?_) | refine W1.boxA rfl (fun _ _ => ?_) | refine kq (fun _ _ => ?_) | refine kp ?_ | (refine isIaddrs ?_; first | refine W1.iaddrI inI rfl rfl (by omega) (fun _ _ _ _ _ _ => ?_) | refine W1.iaddrR inR rfl rfl (by omega) (fun _ _ _ _ _ _ _ => ?_)) | (refine isBox ?_; refine W1.boxS inW (by rfl) (fun _ _ => ?_)) | (refine isBslice ?_; refine W1.bslice (fill_all inC rfl) (fun _ _ => ?_))) <;> (try refine ⟨fun _ => rfl, ?_⟩)))) | (first | refine Ws.seq ?_ | refine Ws.region ?_ | refine Ws.draw (fun bd hbd => ?_) | refine Ws.cond rfl ?_ | refine Ws.skip ?_ | refine Ws.scope ?_ | refine Ws.block ?_ | refine Ws.exit ?_ | refine Ws.ret ?_)))
  · (refine FnEnd.ret (F' := F) (vs := [_, _]) (by (first | refine ResF.tmp inW ?_ | refine ResF.cell rfl inF inP ?_); (first | refine ResF.tmp inW ?_ | refine ResF.cell rfl inF inP ?_); exact ResF.nil) inS ⟨?_, rfl⟩)
    have e : cpv k plan = (0, chk k) := if_pos (by assumption)
    rw [e]
    rfl
  · (refine FnEnd.ret (F' := F) (vs := [_, _]) (by (first | refine ResF.tmp inW ?_ | refine ResF.cell rfl inF inP ?_); (first | refine ResF.tmp inW ?_ | refine ResF.cell rfl inF inP ?_); exact ResF.nil) inS ⟨?_, rfl⟩)
    have e : cpv k plan = (0, 15) := by unfold cpv; rw [if_neg (by omega), if_pos (by omega)]
    rw [e]
    rfl
  · (refine FnEnd.ret (F' := F) (vs := [_, _]) (by (first | refine ResF.tmp inW ?_ | refine ResF.cell rfl inF inP ?_); (first | refine ResF.tmp inW ?_ | refine ResF.cell rfl inF inP ?_); exact ResF.nil) inS ⟨?_, rfl⟩)
    have e : cpv k plan = (0, 3) := by unfold cpv; rw [if_neg (by omega), if_neg (by omega)]; exact if_pos (by assumption)
    rw [e]
    rfl
  · obtain ⟨bb, ov, Fo, hbb, rfl, ho, rfl⟩ := h
    generalize List.replicate 4221 (AV.int .i64 0) ++ [AV.map none] = rest
    rename_i b0 hb0 hchk hlen hoff
    have hv := Vk.of hchk
    have h7 := hv.n2
    have hn3 := hv.n3
    have hov : RowR (Fo ++ ((bb, .cells (bcells k sv cv ov rest) true) :: (b0, .cells (kl k sv cv) true) :: F)) ov (bnds k k.sales.length) := ho.rowR (List.subset_append_left _ _)
    have hbl := bnds_len k k.sales.length
    have hP0 : cpv k plan = cpg k plan 0 (k.sales.length - 0) := by
      unfold cpv
      rw [if_neg (by omega), if_neg (by omega)]
      exact if_neg (by unfold offPlan; rw [hoff]; decide)
    (repeat' (first | (first | refine Wo.nil ?_ | refine Wd.nil ?_ | ((first | refine Wo.cons ?_ | refine Wd.cons ?_); (try refine W1.go rfl rfl ?_); ((first | refine k1 ?_ | refine k2 ?_ | (refine isCall ?_; first | refine W1.pure rfl rfl (f20_ok (by repeat (first | assumption | apply KVal.cons))) ?_ | refine W1.pureB rfl rfl (f45_ok (p := fun x => decide (x < 0 ∨ k.most < x)) inI hlp (fun _ _ => f46_ok inF)) (fun _ => ?_) (fun _ => ?_) | refine W1.callM rfl rfl ((f43_ok (by repeat (first | assumption | apply KVal.cons)) (Vk.of (by assumption))).mono fun v F' h => ?_)) | refine W1.auto ?_ | ((first | refine kA ?_ | refine kB ?_ | refine kC ?_ | refine kD ?_ | refine kE ?_ | refine kF ?_ | refine kG ?_); refine ⟨fun _ => ?_, fun _ => ?_⟩) | refine W1.alloc (fun _ _ => ?_) | refine W1.boxA rfl (fun _ _ => ?_) | refine kq (fun _ _ => ?_) | refine kp ?_ | (refine isIaddrs ?_; first | refine W1.iaddrI inI rfl rfl (by omega) (fun _ _ _ _ _ _ => ?_) | refine W1.iaddrR inR rfl rfl (by omega) (fun _ _ _ _ _ _ _ => ?_)) | (refine isBox ?_; refine W1.boxS inW (by rfl) (fun _ _ => ?_)) | (refine isBslice ?_; refine W1.bslice (fill_all inC rfl) (fun _ _ => ?_))) <;> (try refine ⟨fun _ => rfl, ?_⟩)))) | (first | refine Ws.seq ?_ | refine Ws.region ?_ | refine Ws.draw (fun bd hbd => ?_) | refine Ws.cond rfl ?_ | refine Ws.skip ?_ | refine Ws.scope ?_ | refine Ws.block ?_ | refine Ws.exit ?_ | refine Ws.ret ?_)))
    refine Ws.loopG (X := Nat) (fun i => [(1, pv), (2, .ptr (some (b0, 0))), (33, ov), (34, .int .i64 (bnds k k.sales.length).length), (35, .int .i64 (i : Nat)), (7, .int .i64 (pl plan i)), (8, .int .i64 (pc k plan i))])
      (fun _ => Fo ++ ((bb, .cells (bcells k sv cv ov rest) true) :: (b0, .cells (kl k sv cv) true) :: F)) (fun i => i ≤ k.sales.length ∧ cpv k plan = cpg k plan i (k.sales.length - i)) (fun i => k.sales.length - i) 0
      ⟨rfl, rfl, rfl, rfl, rfl, rfl, rfl, trivial⟩ inS ⟨Nat.zero_le _, hP0⟩ ?_
    rintro i B ⟨hi, hP⟩
    have i1 := pl_in hv hoff i (by omega)
    have i2 := pc_in hv hoff (by omega) i (by omega)
    have i3 : i < k.sales.length → _ := fun h => on_plan hoff (show i < plan.length by omega)
    have i4 : i < k.sales.length → _ := fun h => day_cost hv hoff (by omega) (show i < plan.length by omega)
    have i5 := hv.most2
    have e1 : i < k.sales.length → ((bnds k k.sales.length).getD i (0, 0)).1 = nd k i := fun h => by rw [bnds_get k h]
    have e2 : i < k.sales.length → ((bnds k k.sales.length).getD i (0, 0)).2 = rm k i := fun h => by rw [bnds_get k h]
    (repeat' (first | (first | refine Wo.nil ?_ | refine Wd.nil ?_ | ((first | refine Wo.cons ?_ | refine Wd.cons ?_); (try refine W1.go rfl rfl ?_); ((first | refine k1 ?_ | refine k2 ?_ | (refine isCall ?_; first | refine W1.pure rfl rfl (f20_ok (by repeat (first | assumption | apply KVal.cons))) ?_ | refine W1.pureB rfl rfl (f45_ok (p := fun x => decide (x < 0 ∨ k.most < x)) inI hlp (fun _ _ => f46_ok inF)) (fun _ => ?_) (fun _ => ?_) | refine W1.callM rfl rfl ((f43_ok (by repeat (first | assumption | apply KVal.cons)) (Vk.of (by assumption))).mono fun v F' h => ?_)) | refine W1.auto ?_ | ((first | refine kA ?_ | refine kB ?_ | refine kC ?_ | refine kD ?_ | refine kE ?_ | refine kF ?_ | refine kG ?_); refine ⟨fun _ => ?_, fun _ => ?_⟩) | refine W1.alloc (fun _ _ => ?_) | refine W1.boxA rfl (fun _ _ => ?_) | refine kq (fun _ _ => ?_) | refine kp ?_ | (refine isIaddrs ?_; first | refine W1.iaddrI inI rfl rfl (by omega) (fun _ _ _ _ _ _ => ?_) | refine W1.iaddrR inR rfl rfl (by omega) (fun _ _ _ _ _ _ _ => ?_)) | (refine isBox ?_; refine W1.boxS inW (by rfl) (fun _ _ => ?_)) | (refine isBslice ?_; refine W1.bslice (fill_all inC rfl) (fun _ _ => ?_))) <;> (try refine ⟨fun _ => rfl, ?_⟩)))) | (first | refine Ws.seq ?_ | refine Ws.region ?_ | refine Ws.draw (fun bd hbd => ?_) | refine Ws.cond rfl ?_ | refine Ws.skip ?_ | refine Ws.scope ?_ | refine Ws.block ?_ | refine Ws.exit ?_ | refine Ws.ret ?_)))
    · (refine FnEnd.ret (F' := F) (vs := [_, _]) (by (first | refine ResF.tmp inW ?_ | refine ResF.cell rfl inF inP ?_); (first | refine ResF.tmp inW ?_ | refine ResF.cell rfl inF inP ?_); exact ResF.nil) inS ⟨?_, rfl⟩)
      rw [hP, cpg_step k plan (by omega), if_pos (by have := e2 (by omega); omega)]
      rfl
    · (refine FnEnd.ret (F' := F) (vs := [_, _]) (by (first | refine ResF.tmp inW ?_ | refine ResF.cell rfl inF inP ?_); (first | refine ResF.tmp inW ?_ | refine ResF.cell rfl inF inP ?_); exact ResF.nil) inS ⟨?_, rfl⟩)
      rw [hP, cpg_step k plan (by omega), if_neg (by have := e2 (by omega); omega), if_pos (by have := e1 (by omega); omega)]
      rfl
    · refine ⟨i + 1, ⟨rfl, rfl, rfl, rfl, rfl, rfl, rfl, trivial⟩, inS, ⟨by omega, ?_⟩, by omega⟩
      rw [hP, cpg_step k plan (by omega), if_neg (by have := e2 (by omega); omega), if_neg (by have := e1 (by omega); omega)]
    · (refine FnEnd.ret (F' := F) (vs := [_, _]) (by (first | refine ResF.tmp inW ?_ | refine ResF.cell rfl inF inP ?_); (first | refine ResF.tmp inW ?_ | refine ResF.cell rfl inF inP ?_); exact ResF.nil) inS ⟨?_, rfl⟩)
      rw [hP, show k.sales.length - i = 0 by omega]
      rfl
end Go.Ax
