/-
  Contracts: the bound of values, by the reference.
-/
import Derived.Test.YtmhbmnonichopaaXW1
import Derived.Test.YtmhbmnonichopaaXU6
namespace Go.Ax
set_option maxHeartbeats 4000000
set_option maxRecDepth 20000
set_option linter.unusedSimpArgs false
set_option linter.unusedVariables false
variable {lo : Nat} {F : Hp}

theorem on_vals {vs : List Int} (h : offVals vs = false) (j : Nat) : 0 ≤ vs.getD j 0 ∧ vs.getD j 0 ≤ 100000 := by
  by_cases hj : j < vs.length
  · have := (any_false_getD _ vs 0).1 h j hj
    simp only [decide_eq_false_iff_not] at this
    omega
  · have : vs.getD j 0 = 0 := by simp [List.getD, List.getElem?_eq_none (by omega : vs.length ≤ j)]
    omega
theorem cvl_chk {k : K} {vs : List Int} (h : chk k ≠ 0) : cvl k vs = (0, chk k) := if_pos h
theorem cvl_len {k : K} {vs : List Int} (h : chk k = 0) (h2 : vs.length ≠ k.sales.length) : cvl k vs = (0, 15) := by unfold cvl; rw [if_neg (by omega), if_pos h2]
theorem cvl_off {k : K} {vs : List Int} (h : chk k = 0) (h2 : vs.length = k.sales.length) (h3 : offVals vs = true) : cvl k vs = (0, 3) := by unfold cvl; rw [if_neg (by omega), if_neg (by omega), if_pos h3]
theorem cvl_on {k : K} {vs : List Int} (h : chk k = 0) (h2 : vs.length = k.sales.length) (h3 : offVals vs = false) : cvl k vs = (bnd k vs k.sales.length, 0) := by unfold cvl; rw [if_neg (by omega), if_neg (by omega), if_neg (by simp [h3])]
/-- the bound's parts are small -/
theorem part_in {a x y : Int} (ha : 0 ≤ a ∧ a ≤ 3000000) (hx : 0 ≤ x ∧ x ≤ 100000) (hy : 0 ≤ y ∧ y ≤ 100000) : 0 ≤ a * max 0 (x - y) ∧ a * max 0 (x - y) ≤ 300000000000 := by
  have h1 : a * max 0 (x - y) ≤ 3000000 * 100000 := Int.mul_le_mul ha.2 (by omega) (by omega) (by omega)
  exact ⟨Int.mul_nonneg ha.1 (by omega), by omega⟩
theorem bnd_in {k : K} (hv : Vk k) {vs : List Int} (h : offVals vs = false) : ∀ d, d ≤ k.sales.length → -(1000000000000 * (d : Int)) ≤ bnd k vs d ∧ bnd k vs d ≤ 1000000000000 * (d : Int)
  | 0, _ => by simp [bnd]
  | d + 1, hd => by
    have ih := bnd_in hv h d (by omega)
    have h1 := on_vals h d
    have h2 : 0 ≤ nxtV vs k.sales.length d ∧ nxtV vs k.sales.length d ≤ 100000 := by unfold nxtV; split; exact on_vals h (d + 1); omega
    have h3 := hv.cost d (by omega)
    have p1 := part_in (nd_in hv (show d < k.sales.length by omega)) h1 h2
    have p2 := part_in (rm_in hv (show d < k.sales.length by omega)) h2 h1
    have p3 := part_in (a := k.most) ⟨hv.most1, by have := hv.most2; omega⟩ h1 h3
    simp only [bnd, bterm]
    omega
theorem bnd_zero (k : K) (vs : List Int) : bnd k vs 0 = 0 := rfl
theorem bnd_next {k : K} {vs : List Int} {d : Nat} {a1 a2 nx : Int} (h1 : a1 = nd k d) (h2 : a2 = rm k d) (h3 : nxtV vs k.sales.length d = nx) :
    bnd k vs d + a1 * max 0 (vs.getD d 0 - nx) - a2 * max 0 (nx - vs.getD d 0) - k.most * max 0 (vs.getD d 0 - k.costs.getD d 0) = bnd k vs (d + 1) := by
  subst h1 h2 h3
  simp only [bnd, bterm]
  omega
theorem off_of {vs : List Int} {i : Nat} (hi : i < vs.length) (h : vs.getD i 0 < 0) : offVals vs = true := (any_getD _ vs 0).2 ⟨i, hi, by simp only [decide_eq_true_eq]; omega⟩
theorem off_of' {vs : List Int} {i : Nat} (hi : i < vs.length) (h : 100000 < vs.getD i 0) : offVals vs = true := (any_getD _ vs 0).2 ⟨i, hi, by simp only [decide_eq_true_eq]; omega⟩
theorem off_no {vs : List Int} (h : ∀ j, j < vs.length → 0 ≤ vs.getD j 0 ∧ vs.getD j 0 ≤ 100000) : offVals vs = false := (any_false_getD _ vs 0).2 fun j hj => by have := h j hj; simp only [decide_eq_false_iff_not]; omega
attribute [local irreducible] nd rm bnd offVals

theorem f32_ok {k : K} {sv cv vv : AV} {vs : List Int} (h : KVal F k sv cv) (hvv : RowI F vv vs) (hlv : vs.length ≤ 9223372036854775807) : Pure tblW (fnv 32) [.agg (kl k sv cv), vv] F (.tup [.int .i64 (cvl k vs).1, .int .i64 (cvl k vs).2]) := by
  intro lo
  have hk := h
  obtain ⟨hs, hc, hls, hlc⟩ := h
  refine Fn.func (fn := af32) rfl rfl ?_
  (repeat' (first | (first | refine Wo.nil ?_ | refine Wd.nil ?_ | ((first | refine Wo.cons ?_ | refine Wd.cons ?_); (try refine W1.go rfl rfl ?_); ((first | refine k1 ?_ | refine k2 ?_ | (refine isIaddrs ?_; refine W1.iaddrIz (d + 1) (v := vv) inI rfl rfl (by omega) (by omega) (fun _ _ _ _ _ _ => ?_)) | (refine isBinLss ?_; first | refine W1.lss rfl rfl (fun hx => absurd hx (by omega)) (fun _ => ?_) | refine W1.lss rfl rfl (fun _ => ?_) (fun hx => absurd hx (by omega))) | (refine isCall ?_; first | refine W1.pure rfl rfl (f21_ok (by repeat (first | assumption | apply KVal.cons | apply KVal.app))) ?_ | refine W1.callM rfl rfl ((f44_ok (by repeat (first | assumption | apply KVal.cons | apply KVal.app)) (Vk.of (by assumption))).mono fun v F' h => ?_)) | refine W1.auto ?_ | ((first | refine kA ?_ | refine kB ?_ | refine kC ?_ | refine kD ?_ | refine kE ?_ | refine kF ?_ | refine kG ?_); refine ⟨fun _ => ?_, fun _ => ?_⟩) | refine W1.alloc (fun _ _ => ?_) | refine W1.boxA rfl (fun _ _ => ?_) | refine kq (fun _ _ => ?_) | refine kp ?_ | (refine isIaddrs ?_; first | refine W1.iaddrI inI rfl rfl (by omega) (fun _ _ _ _ _ _ => ?_) | refine W1.iaddrR inR rfl rfl (by omega) (fun _ _ _ _ _ _ _ => ?_)) | (refine isBox ?_; refine W1.boxS inW (by rfl) (fun _ _ => ?_)) | (refine isBslice ?_; refine W1.bslice (fill_all inC rfl) (fun _ _ => ?_))) <;> (try refine ⟨fun _ => rfl, ?_⟩)))) | (first | refine Ws.seq ?_ | refine Ws.region ?_ | refine Ws.draw (fun bd hbd => ?_) | refine Ws.cond rfl ?_ | refine Ws.skip ?_ | refine Ws.scope ?_ | refine Ws.block ?_ | refine Ws.exit ?_ | refine Ws.ret ?_)))
  · (refine FnEnd.ret (F' := F) (vs := [_, _]) (by (first | refine ResF.tmp inW ?_ | refine ResF.cell rfl inF inP ?_); (first | refine ResF.tmp inW ?_ | refine ResF.cell rfl inF inP ?_); exact ResF.nil) inS ⟨?_, rfl⟩)
    rw [cvl_chk (by assumption)]; rfl
  · (refine FnEnd.ret (F' := F) (vs := [_, _]) (by (first | refine ResF.tmp inW ?_ | refine ResF.cell rfl inF inP ?_); (first | refine ResF.tmp inW ?_ | refine ResF.cell rfl inF inP ?_); exact ResF.nil) inS ⟨?_, rfl⟩)
    rw [cvl_len (by assumption) (by omega)]; rfl
  rename_i b0 hb0 hchk hlen
  have hv := Vk.of hchk
  have h7 := hv.n2
  refine Ws.loopD 1099507433584 rfl [(1, _), (2, _)] ⟨inW, inW, trivial⟩ [1, 2] rfl rfl (X := Nat) (fun i => [(6, .int .i64 (i : Nat))]) (fun _ => (b0, .cells (kl k sv cv) true) :: F) (fun i => i ≤ vs.length ∧ ∀ j, j < i → 0 ≤ vs.getD j 0 ∧ vs.getD j 0 ≤ 100000) (fun i => vs.length - i) 0
    ⟨rfl, trivial⟩ inS ⟨Nat.zero_le _, fun j hj => absurd hj (Nat.not_lt_zero j)⟩ ?_
  rintro i B ⟨hi, hall⟩
  (repeat' (first | (first | refine Wo.nil ?_ | refine Wd.nil ?_ | ((first | refine Wo.cons ?_ | refine Wd.cons ?_); (try refine W1.go rfl rfl ?_); ((first | refine k1 ?_ | refine k2 ?_ | (refine isIaddrs ?_; refine W1.iaddrIz (d + 1) (v := vv) inI rfl rfl (by omega) (by omega) (fun _ _ _ _ _ _ => ?_)) | (refine isBinLss ?_; first | refine W1.lss rfl rfl (fun hx => absurd hx (by omega)) (fun _ => ?_) | refine W1.lss rfl rfl (fun _ => ?_) (fun hx => absurd hx (by omega))) | (refine isCall ?_; first | refine W1.pure rfl rfl (f21_ok (by repeat (first | assumption | apply KVal.cons | apply KVal.app))) ?_ | refine W1.callM rfl rfl ((f44_ok (by repeat (first | assumption | apply KVal.cons | apply KVal.app)) (Vk.of (by assumption))).mono fun v F' h => ?_)) | refine W1.auto ?_ | ((first | refine kA ?_ | refine kB ?_ | refine kC ?_ | refine kD ?_ | refine kE ?_ | refine kF ?_ | refine kG ?_); refine ⟨fun _ => ?_, fun _ => ?_⟩) | refine W1.alloc (fun _ _ => ?_) | refine W1.boxA rfl (fun _ _ => ?_) | refine kq (fun _ _ => ?_) | refine kp ?_ | (refine isIaddrs ?_; first | refine W1.iaddrI inI rfl rfl (by omega) (fun _ _ _ _ _ _ => ?_) | refine W1.iaddrR inR rfl rfl (by omega) (fun _ _ _ _ _ _ _ => ?_)) | (refine isBox ?_; refine W1.boxS inW (by rfl) (fun _ _ => ?_)) | (refine isBslice ?_; refine W1.bslice (fill_all inC rfl) (fun _ _ => ?_))) <;> (try refine ⟨fun _ => rfl, ?_⟩)))) | (first | refine Ws.seq ?_ | refine Ws.region ?_ | refine Ws.draw (fun bd hbd => ?_) | refine Ws.cond rfl ?_ | refine Ws.skip ?_ | refine Ws.scope ?_ | refine Ws.block ?_ | refine Ws.exit ?_ | refine Ws.ret ?_)))
  · (refine FnEnd.ret (F' := F) (vs := [_, _]) (by (first | refine ResF.tmp inW ?_ | refine ResF.cell rfl inF inP ?_); (first | refine ResF.tmp inW ?_ | refine ResF.cell rfl inF inP ?_); exact ResF.nil) inS ⟨?_, rfl⟩)
    rw [cvl_off hchk (by omega) (off_of (i := i) (by omega) (by assumption))]; rfl
  · (refine FnEnd.ret (F' := F) (vs := [_, _]) (by (first | refine ResF.tmp inW ?_ | refine ResF.cell rfl inF inP ?_); (first | refine ResF.tmp inW ?_ | refine ResF.cell rfl inF inP ?_); exact ResF.nil) inS ⟨?_, rfl⟩)
    rw [cvl_off hchk (by omega) (off_of' (i := i) (by omega) (by assumption))]; rfl
  · refine ⟨i + 1, ⟨rfl, trivial⟩, inS, ⟨by omega, fun j hj => ?_⟩, by show _ - (i + 1) < _; omega⟩
    rcases Nat.lt_succ_iff_lt_or_eq.1 hj with h | rfl
    · exact hall j h
    · omega
  · have hoff : offVals vs = false := off_no fun j hj => hall j (by omega)
    obtain ⟨Fo, ho, rfl⟩ := h
    have hov : RowR (Fo ++ ((b0, .cells (kl k sv cv) true) :: F)) v (bnds k k.sales.length) := ho.rowR (List.subset_append_left _ _)
    have hbl := bnds_len k k.sales.length
    have hcon := cvl_on hchk (by omega) hoff
    have hcl := hv.n3
    (repeat' (first | (first | refine Wo.nil ?_ | refine Wd.nil ?_ | ((first | refine Wo.cons ?_ | refine Wd.cons ?_); (try refine W1.go rfl rfl ?_); ((first | refine k1 ?_ | refine k2 ?_ | (refine isIaddrs ?_; refine W1.iaddrIz (d + 1) (v := vv) inI rfl rfl (by omega) (by omega) (fun _ _ _ _ _ _ => ?_)) | (refine isBinLss ?_; first | refine W1.lss rfl rfl (fun hx => absurd hx (by omega)) (fun _ => ?_) | refine W1.lss rfl rfl (fun _ => ?_) (fun hx => absurd hx (by omega))) | (refine isCall ?_; first | refine W1.pure rfl rfl (f21_ok (by repeat (first | assumption | apply KVal.cons | apply KVal.app))) ?_ | refine W1.callM rfl rfl ((f44_ok (by repeat (first | assumption | apply KVal.cons | apply KVal.app)) (Vk.of (by assumption))).mono fun v F' h => ?_)) | refine W1.auto ?_ | ((first | refine kA ?_ | refine kB ?_ | refine kC ?_ | refine kD ?_ | refine kE ?_ | refine kF ?_ | refine kG ?_); refine ⟨fun _ => ?_, fun _ => ?_⟩) | refine W1.alloc (fun _ _ => ?_) | refine W1.boxA rfl (fun _ _ => ?_) | refine kq (fun _ _ => ?_) | refine kp ?_ | (refine isIaddrs ?_; first | refine W1.iaddrI inI rfl rfl (by omega) (fun _ _ _ _ _ _ => ?_) | refine W1.iaddrR inR rfl rfl (by omega) (fun _ _ _ _ _ _ _ => ?_)) | (refine isBox ?_; refine W1.boxS inW (by rfl) (fun _ _ => ?_)) | (refine isBslice ?_; refine W1.bslice (fill_all inC rfl) (fun _ _ => ?_))) <;> (try refine ⟨fun _ => rfl, ?_⟩)))) | (first | refine Ws.seq ?_ | refine Ws.region ?_ | refine Ws.draw (fun bd hbd => ?_) | refine Ws.cond rfl ?_ | refine Ws.skip ?_ | refine Ws.scope ?_ | refine Ws.block ?_ | refine Ws.exit ?_ | refine Ws.ret ?_)))
    refine Ws.loopD 20282409603651670419549204776704 rfl [(1, _), (2, _), (7, _)] ⟨inW, inW, inW, trivial⟩ [1, 2, 7] rfl rfl (X := Nat) (fun d => [(8, .int .i64 (bnd k vs d)), (9, .int .i64 (d : Nat))]) (fun _ => Fo ++ ((b0, .cells (kl k sv cv) true) :: F)) (fun d => d ≤ k.sales.length) (fun d => k.sales.length - d) 0
      ⟨by show AV.int .i64 0 = AV.int .i64 (bnd k vs 0); rw [bnd_zero], rfl, trivial⟩ inS (Nat.zero_le _) ?_
    intro d B2 hd
    have hbi := bnd_in hv hoff d hd
    by_cases hdn : d = k.sales.length
    · subst hdn
      (repeat' (first | (first | refine Wo.nil ?_ | refine Wd.nil ?_ | ((first | refine Wo.cons ?_ | refine Wd.cons ?_); (try refine W1.go rfl rfl ?_); ((first | refine k1 ?_ | refine k2 ?_ | (refine isIaddrs ?_; refine W1.iaddrIz (d + 1) (v := vv) inI rfl rfl (by omega) (by omega) (fun _ _ _ _ _ _ => ?_)) | (refine isBinLss ?_; first | refine W1.lss rfl rfl (fun hx => absurd hx (by omega)) (fun _ => ?_) | refine W1.lss rfl rfl (fun _ => ?_) (fun hx => absurd hx (by omega))) | (refine isCall ?_; first | refine W1.pure rfl rfl (f21_ok (by repeat (first | assumption | apply KVal.cons | apply KVal.app))) ?_ | refine W1.callM rfl rfl ((f44_ok (by repeat (first | assumption | apply KVal.cons | apply KVal.app)) (Vk.of (by assumption))).mono fun v F' h => ?_)) | refine W1.auto ?_ | ((first | refine kA ?_ | refine kB ?_ | refine kC ?_ | refine kD ?_ | refine kE ?_ | refine kF ?_ | refine kG ?_); refine ⟨fun _ => ?_, fun _ => ?_⟩) | refine W1.alloc (fun _ _ => ?_) | refine W1.boxA rfl (fun _ _ => ?_) | refine kq (fun _ _ => ?_) | refine kp ?_ | (refine isIaddrs ?_; first | refine W1.iaddrI inI rfl rfl (by omega) (fun _ _ _ _ _ _ => ?_) | refine W1.iaddrR inR rfl rfl (by omega) (fun _ _ _ _ _ _ _ => ?_)) | (refine isBox ?_; refine W1.boxS inW (by rfl) (fun _ _ => ?_)) | (refine isBslice ?_; refine W1.bslice (fill_all inC rfl) (fun _ _ => ?_))) <;> (try refine ⟨fun _ => rfl, ?_⟩)))) | (first | refine Ws.seq ?_ | refine Ws.region ?_ | refine Ws.draw (fun bd hbd => ?_) | refine Ws.cond rfl ?_ | refine Ws.skip ?_ | refine Ws.scope ?_ | refine Ws.block ?_ | refine Ws.exit ?_ | refine Ws.ret ?_)))
      (refine FnEnd.ret (F' := F) (vs := [_, _]) (by (first | refine ResF.tmp inW ?_ | refine ResF.cell rfl inF inP ?_); (first | refine ResF.tmp inW ?_ | refine ResF.cell rfl inF inP ?_); exact ResF.nil) inS ⟨?_, rfl⟩)
      rw [hcon]; rfl
    · have hd' : d < k.sales.length := by omega
      have e0 := bnds_get k hd'
      have e1 : ((bnds k k.sales.length).getD d (0, 0)).1 = nd k d := by rw [e0]
      have e2 : ((bnds k k.sales.length).getD d (0, 0)).2 = rm k d := by rw [e0]
      have v1 := on_vals hoff d
      have v2 := on_vals hoff (d + 1)
      have v3 := hv.cost d hd'
      have p1 := part_in (nd_in hv hd') v1 v2
      have p2 := part_in (rm_in hv hd') v2 v1
      have p3 := part_in (nd_in hv hd') v1 (show 0 ≤ (0 : Int) ∧ (0 : Int) ≤ 100000 by omega)
      have p4 := part_in (rm_in hv hd') (show 0 ≤ (0 : Int) ∧ (0 : Int) ≤ 100000 by omega) v1
      have p5 := part_in (a := k.most) ⟨hv.most1, by have := hv.most2; omega⟩ v1 v3
      rw [← e1] at p1 p3
      rw [← e2] at p2 p4
      (repeat' (first | (first | refine Wo.nil ?_ | refine Wd.nil ?_ | ((first | refine Wo.cons ?_ | refine Wd.cons ?_); (try refine W1.go rfl rfl ?_); ((first | refine k1 ?_ | refine k2 ?_ | (refine isIaddrs ?_; refine W1.iaddrIz (d + 1) (v := vv) inI rfl rfl (by omega) (by omega) (fun _ _ _ _ _ _ => ?_)) | (refine isBinLss ?_; first | refine W1.lss rfl rfl (fun hx => absurd hx (by omega)) (fun _ => ?_) | refine W1.lss rfl rfl (fun _ => ?_) (fun hx => absurd hx (by omega))) | (refine isCall ?_; first | refine W1.pure rfl rfl (f21_ok (by repeat (first | assumption | apply KVal.cons | apply KVal.app))) ?_ | refine W1.callM rfl rfl ((f44_ok (by repeat (first | assumption | apply KVal.cons | apply KVal.app)) (Vk.of (by assumption))).mono fun v F' h => ?_)) | refine W1.auto ?_ | ((first | refine kA ?_ | refine kB ?_ | refine kC ?_ | refine kD ?_ | refine kE ?_ | refine kF ?_ | refine kG ?_); refine ⟨fun _ => ?_, fun _ => ?_⟩) | refine W1.alloc (fun _ _ => ?_) | refine W1.boxA rfl (fun _ _ => ?_) | refine kq (fun _ _ => ?_) | refine kp ?_ | (refine isIaddrs ?_; first | refine W1.iaddrI inI rfl rfl (by omega) (fun _ _ _ _ _ _ => ?_) | refine W1.iaddrR inR rfl rfl (by omega) (fun _ _ _ _ _ _ _ => ?_)) | (refine isBox ?_; refine W1.boxS inW (by rfl) (fun _ _ => ?_)) | (refine isBslice ?_; refine W1.bslice (fill_all inC rfl) (fun _ _ => ?_))) <;> (try refine ⟨fun _ => rfl, ?_⟩)))) | (first | refine Ws.seq ?_ | refine Ws.region ?_ | refine Ws.draw (fun bd hbd => ?_) | refine Ws.cond rfl ?_ | refine Ws.skip ?_ | refine Ws.scope ?_ | refine Ws.block ?_ | refine Ws.exit ?_ | refine Ws.ret ?_)))
      all_goals exact ⟨d + 1, ⟨congrArg (AV.int .i64) (bnd_next e1 e2 (by unfold nxtV; first | rw [if_pos (by omega)] | rw [if_neg (by omega)])), rfl, trivial⟩, inS, by show d + 1 ≤ _; omega, by show _ - (d + 1) < _; omega⟩
end Go.Ax
