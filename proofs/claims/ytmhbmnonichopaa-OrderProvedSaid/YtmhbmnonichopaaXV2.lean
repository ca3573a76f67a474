/-
  Contracts: the bound of values, by the program: its loop.
-/
import Derived.Test.YtmhbmnonichopaaXV1
namespace Go.Ax
set_option maxHeartbeats 4000000
set_option maxRecDepth 20000
set_option linter.unusedSimpArgs false
set_option linter.unusedVariables false
variable {lo : Nat} {F : Hp}

theorem rowI_cell {v : AV} {xs : List Int} (h : RowI F v xs) : v.cells = some [v] := by obtain ⟨p, cap, ex, es, rfl, _⟩ := h; rfl
theorem f55_ok {vv : AV} {vs : List Int} (hvv : RowI F vv vs) : Fn tblW lo (fnv 55) [vv] F fun v F' => ∃ b1, lo ≤ b1 ∧ v = .fn (.func 63) [] [.ptr (some (b1, 0))] ∧ F' = (b1, .cells [vv] true) :: F := by
  refine Fn.func (fn := af55) rfl rfl ?_
  (repeat' (first | (first | refine Wo.nil ?_ | refine Wd.nil ?_ | ((first | refine Wo.cons ?_ | refine Wd.cons ?_); (try refine W1.go rfl rfl ?_); ((first | refine k1 ?_ | refine k2 ?_ | (refine isBox ?_; refine W1.boxS rfl (rowI_cell hvv) (fun _ _ => ?_)) | refine W1.auto ?_ | ((first | refine kA ?_ | refine kB ?_ | refine kC ?_ | refine kD ?_ | refine kE ?_ | refine kF ?_ | refine kG ?_); refine ⟨fun _ => ?_, fun _ => ?_⟩) | refine W1.alloc (fun _ _ => ?_) | refine W1.boxA rfl (fun _ _ => ?_) | refine kq (fun _ _ => ?_) | refine kp ?_ | (refine isIaddrs ?_; first | refine W1.iaddrI inI rfl rfl (by omega) (fun _ _ _ _ _ _ => ?_) | refine W1.iaddrR inR rfl rfl (by omega) (fun _ _ _ _ _ _ _ => ?_)) | (refine isBox ?_; refine W1.boxS inW (by rfl) (fun _ _ => ?_)) | (refine isBslice ?_; refine W1.bslice (fill_all inC rfl) (fun _ _ => ?_))) <;> (try refine ⟨fun _ => rfl, ?_⟩)))) | (first | refine Ws.seq ?_ | refine Ws.region ?_ | refine Ws.draw (fun bd hbd => ?_) | refine Ws.cond rfl ?_ | refine Ws.skip ?_ | refine Ws.scope ?_ | refine Ws.block ?_ | refine Ws.exit ?_ | refine Ws.ret ?_)))
  rename_i b1 hb1
  exact FnEnd.ret (F0 := F) (Q := fun v F' => ∃ b1, lo ≤ b1 ∧ v = .fn (.func 63) [] [.ptr (some (b1, 0))] ∧ F' = (b1, .cells [vv] true) :: F) (F' := (b1, .cells [vv] true) :: F) (vs := [.fn (.func 63) [] [.ptr (some (b1, 0))]]) (.tmp rfl .nil) (List.Sublist.refl _) ⟨b1, hb1, rfl, rfl⟩

theorem part_abs {a x y : Int} (ha : 0 ≤ a ∧ a ≤ 3000000) (hx : 0 ≤ x ∧ x ≤ 100000) (hy : 0 ≤ y ∧ y ≤ 100000) : -300000000000 ≤ a * (x - y) ∧ a * (x - y) ≤ 300000000000 := by
  have p1 := part_in ha hx hy
  have p2 := part_in ha hy hx
  rcases Int.le_total y x with h | h
  · rw [Int.max_eq_right (by omega)] at p1; omega
  · rw [Int.max_eq_right (by omega)] at p2
    have : a * (x - y) = -(a * (y - x)) := by rw [← Int.mul_neg]; congr 1; omega
    omega
theorem bterm_gt {k : K} {vs : List Int} {d : Nat} {nx : Int} (h : nxtV vs k.sales.length d = nx) (hg : nx < vs.getD d 0) (ho : 0 < vs.getD d 0 - k.costs.getD d 0) : bterm k vs d = nd k d * (vs.getD d 0 - nx) - k.most * (vs.getD d 0 - k.costs.getD d 0) := by
  subst h
  unfold bterm
  rw [Int.max_eq_right (show 0 ≤ vs.getD d 0 - nxtV vs k.sales.length d by omega), Int.max_eq_left (show nxtV vs k.sales.length d - vs.getD d 0 ≤ 0 by omega), Int.max_eq_right (show 0 ≤ vs.getD d 0 - k.costs.getD d 0 by omega)]
  omega
theorem bterm_gt' {k : K} {vs : List Int} {d : Nat} {nx : Int} (h : nxtV vs k.sales.length d = nx) (hg : nx < vs.getD d 0) (ho : vs.getD d 0 - k.costs.getD d 0 ≤ 0) : bterm k vs d = nd k d * (vs.getD d 0 - nx) := by
  subst h
  unfold bterm
  rw [Int.max_eq_right (show 0 ≤ vs.getD d 0 - nxtV vs k.sales.length d by omega), Int.max_eq_left (show nxtV vs k.sales.length d - vs.getD d 0 ≤ 0 by omega), Int.max_eq_left (show vs.getD d 0 - k.costs.getD d 0 ≤ 0 by omega)]
  omega
theorem bterm_le0 {k : K} {vs : List Int} {d : Nat} {nx : Int} (h : nxtV vs k.sales.length d = nx) (hg : vs.getD d 0 ≤ nx) (ho : 0 < vs.getD d 0 - k.costs.getD d 0) : bterm k vs d = -(rm k d * (nx - vs.getD d 0)) - k.most * (vs.getD d 0 - k.costs.getD d 0) := by
  subst h
  unfold bterm
  rw [Int.max_eq_left (show vs.getD d 0 - nxtV vs k.sales.length d ≤ 0 by omega), Int.max_eq_right (show 0 ≤ nxtV vs k.sales.length d - vs.getD d 0 by omega), Int.max_eq_right (show 0 ≤ vs.getD d 0 - k.costs.getD d 0 by omega)]
  omega
theorem bterm_le0' {k : K} {vs : List Int} {d : Nat} {nx : Int} (h : nxtV vs k.sales.length d = nx) (hg : vs.getD d 0 ≤ nx) (ho : vs.getD d 0 - k.costs.getD d 0 ≤ 0) : bterm k vs d = -(rm k d * (nx - vs.getD d 0)) := by
  subst h
  unfold bterm
  rw [Int.max_eq_left (show vs.getD d 0 - nxtV vs k.sales.length d ≤ 0 by omega), Int.max_eq_right (show 0 ≤ nxtV vs k.sales.length d - vs.getD d 0 by omega), Int.max_eq_left (show vs.getD d 0 - k.costs.getD d 0 ≤ 0 by omega)]
  omega
theorem bnd_succ (k : K) (vs : List Int) (d : Nat) : bnd k vs (d + 1) = bnd k vs d + bterm k vs d := rfl
/-- the value behind a day -/
def nxd (vs : List Int) (n r : Nat) : Int := if r < n then vs.getD r 0 else 0
theorem nxd_nxt {vs : List Int} {n d : Nat} : nxtV vs n d = nxd vs n (d + 1) := rfl
theorem nxd_in {vs : List Int} (h : offVals vs = false) (n r : Nat) : 0 ≤ nxd vs n r ∧ nxd vs n r ≤ 100000 := by unfold nxd; split; exact on_vals h r; omega
theorem nxd_lt {vs : List Int} {n r : Nat} (h : r < n) : nxd vs n r = vs.getD r 0 := if_pos h
theorem nxd_end (vs : List Int) (n : Nat) : nxd vs n n = 0 := if_neg (by omega)
theorem cell_eq {a b : Int} (h : a = b) : [AV.int .i64 a] = [AV.int .i64 b] := by rw [h]
attribute [local irreducible] nd rm bnd offVals bterm nxd nxtV

theorem f31_range {k : K} {sv cv ov vv : AV} {rest : List AV} {vs : List Int} {bb b0 b7 b8 b9 bvv : Nat} {Fo : Hp} {B : FE} (hv : Vk k) (hc : RowI F cv k.costs) (hvv : RowI F vv vs) (hlv : vs.length = k.sales.length) (hoff : offVals vs = false) (hov : RowR Fo ov (bnds k k.sales.length))
    (hb7 : lo ≤ b7) (hb8 : lo ≤ b8) :
    Ws tblW lo none (af31.body.rangeAt 0) (upds B [(2, .ptr (some (b0, 0))), (7, .ptr (some (b7, 0))), (8, .ptr (some (b8, 0))), (9, .ptr (some (b9, 0))), (34, .fn (.func 63) [] [.ptr (some (bvv, 0))])]) ((fun r => (bvv, ABlk.cells [vv] true) :: (b9, .cells [.ptr (some (bb, 0))] true) :: (Fo ++ ((bb, .cells (bcells k sv cv ov rest) true) :: (b8, .cells [.int .i64 (nxd vs k.sales.length r)] true) :: (b7, .cells [.int .i64 (bnd k vs k.sales.length - bnd k vs r)] true) :: (b0, .cells (kl k sv cv) true) :: F))) vs.length) fun r E' G => r = .normal ∧ Holds E' [(2, .ptr (some (b0, 0))), (7, .ptr (some (b7, 0))), (8, .ptr (some (b8, 0))), (9, .ptr (some (b9, 0))), (34, .fn (.func 63) [] [.ptr (some (bvv, 0))])] ∧ G = (fun r => (bvv, ABlk.cells [vv] true) :: (b9, .cells [.ptr (some (bb, 0))] true) :: (Fo ++ ((bb, .cells (bcells k sv cv ov rest) true) :: (b8, .cells [.int .i64 (nxd vs k.sales.length r)] true) :: (b7, .cells [.int .i64 (bnd k vs k.sales.length - bnd k vs r)] true) :: (b0, .cells (kl k sv cv) true) :: F))) 0 := by
  have h7 := hv.n2
  have h8 := hv.n3
  have hm1 := hv.most1
  have hm2 := hv.most2
  show Ws tblW lo none (.rangeF _ _ _ _) _ _ _
  refine Ws.rangeV (fv := .fn (.func 63) [] [.ptr (some (bvv, 0))]) rfl rfl fun L rdy bsy hL hy => ?_
  have hyv := @hy
  clear hy
  refine (f63_ok (vs := vs) (vv := vv) (by omega) (fun r G => G = (L, rdy) :: (fun r => (bvv, ABlk.cells [vv] true) :: (b9, .cells [.ptr (some (bb, 0))] true) :: (Fo ++ ((bb, .cells (bcells k sv cv ov rest) true) :: (b8, .cells [.int .i64 (nxd vs k.sales.length r)] true) :: (b7, .cells [.int .i64 (bnd k vs k.sales.length - bnd k vs r)] true) :: (b0, .cells (kl k sv cv) true) :: F))) r) ?_ ?_ ?_).mono ?_
  · rintro r G rfl
    exact ⟨inF, inI⟩
  · rintro r G lo' hr rfl rfl
    refine hyv inF hL rfl ?_
    have hr' : r < k.sales.length := by omega
    have e0 := bnds_get k hr'
    have e1 : ((bnds k k.sales.length).getD r (0, 0)).1 = nd k r := by rw [e0]
    have e2 : ((bnds k k.sales.length).getD r (0, 0)).2 = rm k r := by rw [e0]
    have v1 := on_vals hoff r
    have v2 := nxd_in hoff k.sales.length (r + 1)
    have v3 := hv.cost r hr'
    have p1 := part_abs (nd_in hv hr') v1 v2
    have p2 := part_abs (rm_in hv hr') v2 v1
    have p3 := part_abs (a := k.most) ⟨hv.most1, by have := hv.most2; omega⟩ v1 v3
    have p4 := bnd_in hv hoff (r + 1) (by omega)
    have p5 := bnd_in hv hoff k.sales.length (Nat.le_refl _)
    have hnx : nxtV vs k.sales.length r = nxd vs k.sales.length (r + 1) := nxd_nxt
    have hb := bnd_succ k vs r
    have hnr := nxd_lt (vs := vs) hr'
    have hbl := bnds_len k k.sales.length
    rw [← e1] at p1
    rw [← e2] at p2
    have hov' : RowR (Fo ++ ((bb, .cells (bcells k sv cv ov rest) true) :: (b8, .cells [.int .i64 (nxd vs k.sales.length (r + 1))] true) :: (b7, .cells [.int .i64 (bnd k vs k.sales.length - bnd k vs (r + 1))] true) :: (b0, .cells (kl k sv cv) true) :: F)) ov (bnds k k.sales.length) := hov.mono (List.subset_append_left _ _)
    clear hyv
    (repeat' (first | (first | refine Wo.nil ?_ | refine Wd.nil ?_ | ((first | refine Wo.cons ?_ | refine Wd.cons ?_); (try refine W1.go rfl rfl ?_); ((first | refine k1 ?_ | refine k2 ?_ | (refine isLoad ?_; first | refine W1.load1 rfl inF (show (bcells k sv cv ov rest)[0 + 7]? = some ov from rfl) ?_ | refine W1.load1 rfl inF (show (kl k sv cv)[0 + 6]? = some cv from rfl) ?_ | refine W1.load1 rfl inF (show (kl k sv cv)[0 + 2]? = some (.int .i64 k.most) from rfl) ?_) | refine W1.auto ?_ | ((first | refine kA ?_ | refine kB ?_ | refine kC ?_ | refine kD ?_ | refine kE ?_ | refine kF ?_ | refine kG ?_); refine ⟨fun _ => ?_, fun _ => ?_⟩) | refine W1.alloc (fun _ _ => ?_) | refine W1.boxA rfl (fun _ _ => ?_) | refine kq (fun _ _ => ?_) | refine kp ?_ | (refine isIaddrs ?_; first | refine W1.iaddrI inI rfl rfl (by omega) (fun _ _ _ _ _ _ => ?_) | refine W1.iaddrR inR rfl rfl (by omega) (fun _ _ _ _ _ _ _ => ?_)) | (refine isBox ?_; refine W1.boxS inW (by rfl) (fun _ _ => ?_)) | (refine isBslice ?_; refine W1.bslice (fill_all inC rfl) (fun _ _ => ?_))) <;> (try refine ⟨fun _ => rfl, ?_⟩)))) | (first | refine Ws.seq ?_ | refine Ws.region ?_ | refine Ws.draw (fun bd hbd => ?_) | refine Ws.cond rfl ?_ | refine Ws.skip ?_ | refine Ws.scope ?_ | refine Ws.block ?_ | refine Ws.exit ?_ | refine Ws.ret ?_)))
    refine ⟨rfl, _, inU, Ws.shrink ?_⟩
    (repeat' (first | (first | refine Wo.nil ?_ | refine Wd.nil ?_ | ((first | refine Wo.cons ?_ | refine Wd.cons ?_); (try refine W1.go rfl rfl ?_); ((first | refine k1 ?_ | refine k2 ?_ | (refine isLoad ?_; first | refine W1.load1 rfl inF (show (bcells k sv cv ov rest)[0 + 7]? = some ov from rfl) ?_ | refine W1.load1 rfl inF (show (kl k sv cv)[0 + 6]? = some cv from rfl) ?_ | refine W1.load1 rfl inF (show (kl k sv cv)[0 + 2]? = some (.int .i64 k.most) from rfl) ?_) | refine W1.auto ?_ | ((first | refine kA ?_ | refine kB ?_ | refine kC ?_ | refine kD ?_ | refine kE ?_ | refine kF ?_ | refine kG ?_); refine ⟨fun _ => ?_, fun _ => ?_⟩) | refine W1.alloc (fun _ _ => ?_) | refine W1.boxA rfl (fun _ _ => ?_) | refine kq (fun _ _ => ?_) | refine kp ?_ | (refine isIaddrs ?_; first | refine W1.iaddrI inI rfl rfl (by omega) (fun _ _ _ _ _ _ => ?_) | refine W1.iaddrR inR rfl rfl (by omega) (fun _ _ _ _ _ _ _ => ?_)) | (refine isBox ?_; refine W1.boxS inW (by rfl) (fun _ _ => ?_)) | (refine isBslice ?_; refine W1.bslice (fill_all inC rfl) (fun _ _ => ?_))) <;> (try refine ⟨fun _ => rfl, ?_⟩)))) | (first | refine Ws.seq ?_ | refine Ws.region ?_ | refine Ws.draw (fun bd hbd => ?_) | refine Ws.cond rfl ?_ | refine Ws.skip ?_ | refine Ws.scope ?_ | refine Ws.block ?_ | refine Ws.exit ?_ | refine Ws.ret ?_)))
    · have hbt := bterm_gt hnx (by assumption) (by assumption)
      rw [← e1] at hbt
      exact ⟨(L, bsy) :: (fun r => (bvv, ABlk.cells [vv] true) :: (b9, .cells [.ptr (some (bb, 0))] true) :: (Fo ++ ((bb, .cells (bcells k sv cv ov rest) true) :: (b8, .cells [.int .i64 (nxd vs k.sales.length r)] true) :: (b7, .cells [.int .i64 (bnd k vs k.sales.length - bnd k vs r)] true) :: (b0, .cells (kl k sv cv) true) :: F))) r, (.cons _ (.cons_cons _ (.cons_cons _ (.cons_cons _ (List.Sublist.append (List.Sublist.refl _) (.cons_cons _ (sub_cells (cell_eq hnr.symm) (sub_cells (cell_eq (by omega)) (List.Sublist.refl _))))))))), rfl, _, .head, rfl, rfl⟩
    · have hbt := bterm_gt' hnx (by assumption) (by assumption)
      rw [← e1] at hbt
      exact ⟨(L, bsy) :: (fun r => (bvv, ABlk.cells [vv] true) :: (b9, .cells [.ptr (some (bb, 0))] true) :: (Fo ++ ((bb, .cells (bcells k sv cv ov rest) true) :: (b8, .cells [.int .i64 (nxd vs k.sales.length r)] true) :: (b7, .cells [.int .i64 (bnd k vs k.sales.length - bnd k vs r)] true) :: (b0, .cells (kl k sv cv) true) :: F))) r, (.cons _ (.cons_cons _ (.cons_cons _ (.cons_cons _ (List.Sublist.append (List.Sublist.refl _) (.cons_cons _ (sub_cells (cell_eq hnr.symm) (sub_cells (cell_eq (by omega)) (List.Sublist.refl _))))))))), rfl, _, .head, rfl, rfl⟩
    · have hbt := bterm_le0 hnx (by assumption) (by assumption)
      rw [← e2] at hbt
      exact ⟨(L, bsy) :: (fun r => (bvv, ABlk.cells [vv] true) :: (b9, .cells [.ptr (some (bb, 0))] true) :: (Fo ++ ((bb, .cells (bcells k sv cv ov rest) true) :: (b8, .cells [.int .i64 (nxd vs k.sales.length r)] true) :: (b7, .cells [.int .i64 (bnd k vs k.sales.length - bnd k vs r)] true) :: (b0, .cells (kl k sv cv) true) :: F))) r, (.cons _ (.cons_cons _ (.cons_cons _ (.cons_cons _ (List.Sublist.append (List.Sublist.refl _) (.cons_cons _ (sub_cells (cell_eq hnr.symm) (sub_cells (cell_eq (by omega)) (List.Sublist.refl _))))))))), rfl, _, .head, rfl, rfl⟩
    · have hbt := bterm_le0' hnx (by assumption) (by assumption)
      rw [← e2] at hbt
      exact ⟨(L, bsy) :: (fun r => (bvv, ABlk.cells [vv] true) :: (b9, .cells [.ptr (some (bb, 0))] true) :: (Fo ++ ((bb, .cells (bcells k sv cv ov rest) true) :: (b8, .cells [.int .i64 (nxd vs k.sales.length r)] true) :: (b7, .cells [.int .i64 (bnd k vs k.sales.length - bnd k vs r)] true) :: (b0, .cells (kl k sv cv) true) :: F))) r, (.cons _ (.cons_cons _ (.cons_cons _ (.cons_cons _ (List.Sublist.append (List.Sublist.refl _) (.cons_cons _ (sub_cells (cell_eq hnr.symm) (sub_cells (cell_eq (by omega)) (List.Sublist.refl _))))))))), rfl, _, .head, rfl, rfl⟩
  · rfl
  · rintro v G ⟨rfl, rfl⟩
    exact ⟨(fun r => (bvv, ABlk.cells [vv] true) :: (b9, .cells [.ptr (some (bb, 0))] true) :: (Fo ++ ((bb, .cells (bcells k sv cv ov rest) true) :: (b8, .cells [.int .i64 (nxd vs k.sales.length r)] true) :: (b7, .cells [.int .i64 (bnd k vs k.sales.length - bnd k vs r)] true) :: (b0, .cells (kl k sv cv) true) :: F))) 0, .head, rfl, ⟨rfl, rfl, rfl, rfl, rfl, trivial⟩, rfl⟩

theorem wi_off {vs : List Int} (h : wi 0 100000 vs = false) : offVals vs = true := by
  unfold wi at h; unfold offVals
  cases hb : vs.any fun x => decide (x < 0 ∨ 100000 < x) with
  | true => rfl
  | false => rw [hb] at h; cases h
theorem wi_on {vs : List Int} (h : wi 0 100000 vs = true) : offVals vs = false := by
  unfold wi at h; unfold offVals
  cases hb : vs.any fun x => decide (x < 0 ∨ 100000 < x) with
  | false => rfl
  | true => rw [hb] at h; cases h
theorem f31_ok {k : K} {sv cv vv : AV} {vs : List Int} (h : KVal F k sv cv) (hvv : RowI F vv vs) (hlv : vs.length ≤ 9223372036854775807) : Pure tblW (fnv 31) [.agg (kl k sv cv), vv] F (.tup [.int .i64 (cvl k vs).1, .int .i64 (cvl k vs).2]) := by
  intro lo
  have hk := h
  obtain ⟨hs, hc, hls, hlc⟩ := h
  refine Fn.func (fn := af31) rfl rfl ?_
  (repeat' (first | (first | refine Wo.nil ?_ | refine Wd.nil ?_ | ((first | refine Wo.cons ?_ | refine Wd.cons ?_); (try refine W1.go rfl rfl ?_); ((first | refine k1 ?_ | refine k2 ?_ | (refine isCall ?_; first | refine W1.pure rfl rfl (f20_ok (by repeat (first | assumption | apply KVal.cons | apply KVal.app))) ?_ | refine W1.pureB rfl rfl (f47_ok (xs := vs) inI hlv) (fun _ => ?_) (fun _ => ?_) | refine W1.callM rfl rfl ((f43_ok (by repeat (first | assumption | apply KVal.cons | apply KVal.app)) (Vk.of (by assumption))).mono fun bv F' h => ?_) | refine W1.callM rfl rfl ((f55_ok (vs := vs) inI).mono fun fv F' h => ?_)) | refine W1.auto ?_ | ((first | refine kA ?_ | refine kB ?_ | refine kC ?_ | refine kD ?_ | refine kE ?_ | refine kF ?_ | refine kG ?_); refine ⟨fun _ => ?_, fun _ => ?_⟩) | refine W1.alloc (fun _ _ => ?_) | refine W1.boxA rfl (fun _ _ => ?_) | refine kq (fun _ _ => ?_) | refine kp ?_ | (refine isIaddrs ?_; first | refine W1.iaddrI inI rfl rfl (by omega) (fun _ _ _ _ _ _ => ?_) | refine W1.iaddrR inR rfl rfl (by omega) (fun _ _ _ _ _ _ _ => ?_)) | (refine isBox ?_; refine W1.boxS inW (by rfl) (fun _ _ => ?_)) | (refine isBslice ?_; refine W1.bslice (fill_all inC rfl) (fun _ _ => ?_))) <;> (try refine ⟨fun _ => rfl, ?_⟩)))) | (first | refine Ws.seq ?_ | refine Ws.region ?_ | refine Ws.draw (fun bd hbd => ?_) | refine Ws.cond rfl ?_ | refine Ws.skip ?_ | refine Ws.scope ?_ | refine Ws.block ?_ | refine Ws.exit ?_ | refine Ws.ret ?_)))
  · (refine FnEnd.ret (F' := F) (vs := [_, _]) (by (first | refine ResF.tmp inW ?_ | refine ResF.cell rfl inF inP ?_); (first | refine ResF.tmp inW ?_ | refine ResF.cell rfl inF inP ?_); exact ResF.nil) inS ⟨?_, rfl⟩)
    rw [cvl_chk (by assumption)]; rfl
  · (refine FnEnd.ret (F' := F) (vs := [_, _]) (by (first | refine ResF.tmp inW ?_ | refine ResF.cell rfl inF inP ?_); (first | refine ResF.tmp inW ?_ | refine ResF.cell rfl inF inP ?_); exact ResF.nil) inS ⟨?_, rfl⟩)
    rw [cvl_len (by assumption) (by omega)]; rfl
  rotate_left
  · (refine FnEnd.ret (F' := F) (vs := [_, _]) (by (first | refine ResF.tmp inW ?_ | refine ResF.cell rfl inF inP ?_); (first | refine ResF.tmp inW ?_ | refine ResF.cell rfl inF inP ?_); exact ResF.nil) inS ⟨?_, rfl⟩)
    rw [cvl_off (by assumption) (by omega) (wi_off (by assumption))]; rfl
  rename_i b0 hb0 hchk hlen hwi b7 hb7 b8 hb8 b9 hb9
  have hv := Vk.of hchk
  have hoff := wi_on hwi
  have hvl : vs.length = k.sales.length := by omega
  obtain ⟨bb, ov, Fo, hbb, rfl, ho, rfl⟩ := h
  generalize List.replicate 4221 (AV.int IntKind.i64 0) ++ [AV.map none] = rest
  (repeat' (first | (first | refine Wo.nil ?_ | refine Wd.nil ?_ | ((first | refine Wo.cons ?_ | refine Wd.cons ?_); (try refine W1.go rfl rfl ?_); ((first | refine k1 ?_ | refine k2 ?_ | (refine isCall ?_; first | refine W1.pure rfl rfl (f20_ok (by repeat (first | assumption | apply KVal.cons | apply KVal.app))) ?_ | refine W1.pureB rfl rfl (f47_ok (xs := vs) inI hlv) (fun _ => ?_) (fun _ => ?_) | refine W1.callM rfl rfl ((f43_ok (by repeat (first | assumption | apply KVal.cons | apply KVal.app)) (Vk.of (by assumption))).mono fun bv F' h => ?_) | refine W1.callM rfl rfl ((f55_ok (vs := vs) inI).mono fun fv F' h => ?_)) | refine W1.auto ?_ | ((first | refine kA ?_ | refine kB ?_ | refine kC ?_ | refine kD ?_ | refine kE ?_ | refine kF ?_ | refine kG ?_); refine ⟨fun _ => ?_, fun _ => ?_⟩) | refine W1.alloc (fun _ _ => ?_) | refine W1.boxA rfl (fun _ _ => ?_) | refine kq (fun _ _ => ?_) | refine kp ?_ | (refine isIaddrs ?_; first | refine W1.iaddrI inI rfl rfl (by omega) (fun _ _ _ _ _ _ => ?_) | refine W1.iaddrR inR rfl rfl (by omega) (fun _ _ _ _ _ _ _ => ?_)) | (refine isBox ?_; refine W1.boxS inW (by rfl) (fun _ _ => ?_)) | (refine isBslice ?_; refine W1.bslice (fill_all inC rfl) (fun _ _ => ?_))) <;> (try refine ⟨fun _ => rfl, ?_⟩)))) | (first | refine Ws.seq ?_ | refine Ws.region ?_ | refine Ws.draw (fun bd hbd => ?_) | refine Ws.cond rfl ?_ | refine Ws.skip ?_ | refine Ws.scope ?_ | refine Ws.block ?_ | refine Ws.exit ?_ | refine Ws.ret ?_)))
  obtain ⟨bvv, hbvv, rfl, rfl⟩ := h
  (repeat' (first | (first | refine Wo.nil ?_ | refine Wd.nil ?_ | ((first | refine Wo.cons ?_ | refine Wd.cons ?_); (try refine W1.go rfl rfl ?_); ((first | refine k1 ?_ | refine k2 ?_ | (refine isCall ?_; first | refine W1.pure rfl rfl (f20_ok (by repeat (first | assumption | apply KVal.cons | apply KVal.app))) ?_ | refine W1.pureB rfl rfl (f47_ok (xs := vs) inI hlv) (fun _ => ?_) (fun _ => ?_) | refine W1.callM rfl rfl ((f43_ok (by repeat (first | assumption | apply KVal.cons | apply KVal.app)) (Vk.of (by assumption))).mono fun bv F' h => ?_) | refine W1.callM rfl rfl ((f55_ok (vs := vs) inI).mono fun fv F' h => ?_)) | refine W1.auto ?_ | ((first | refine kA ?_ | refine kB ?_ | refine kC ?_ | refine kD ?_ | refine kE ?_ | refine kF ?_ | refine kG ?_); refine ⟨fun _ => ?_, fun _ => ?_⟩) | refine W1.alloc (fun _ _ => ?_) | refine W1.boxA rfl (fun _ _ => ?_) | refine kq (fun _ _ => ?_) | refine kp ?_ | (refine isIaddrs ?_; first | refine W1.iaddrI inI rfl rfl (by omega) (fun _ _ _ _ _ _ => ?_) | refine W1.iaddrR inR rfl rfl (by omega) (fun _ _ _ _ _ _ _ => ?_)) | (refine isBox ?_; refine W1.boxS inW (by rfl) (fun _ _ => ?_)) | (refine isBslice ?_; refine W1.bslice (fill_all inC rfl) (fun _ _ => ?_))) <;> (try refine ⟨fun _ => rfl, ?_⟩)))) | (first | refine Ws.seq ?_ | refine Ws.region ?_ | refine Ws.draw (fun bd hbd => ?_) | refine Ws.cond rfl ?_ | refine Ws.skip ?_ | refine Ws.scope ?_ | refine Ws.block ?_ | refine Ws.exit ?_ | refine Ws.ret ?_)))
  refine Ws.envs (l := [(2, .ptr (some (b0, 0))), (7, .ptr (some (b7, 0))), (8, .ptr (some (b8, 0))), (9, .ptr (some (b9, 0))), (34, .fn (.func 63) [] [.ptr (some (bvv, 0))])]) ⟨rfl, rfl, rfl, rfl, rfl, trivial⟩ ?_
  refine Ws.weak (F' := (fun r => (bvv, ABlk.cells [vv] true) :: (b9, .cells [.ptr (some (bb, 0))] true) :: (Fo ++ ((bb, .cells (bcells k sv cv ov rest) true) :: (b8, .cells [.int .i64 (nxd vs k.sales.length r)] true) :: (b7, .cells [.int .i64 (bnd k vs k.sales.length - bnd k vs r)] true) :: (b0, .cells (kl k sv cv) true) :: F))) vs.length) (.cons_cons _ (.cons_cons _ (List.Sublist.append (List.Sublist.refl _) (.cons_cons _ (sub_cells (cell_eq (by rw [hvl, nxd_end])) (sub_cells (cell_eq (by rw [hvl, Int.sub_self])) (List.Sublist.refl _))))))) ?_
  refine (f31_range hv hc hvv hvl hoff (ho.rowR (List.Subset.refl _)) hb7 hb8).mono ?_
  rintro r E' G ⟨rfl, hE', rfl⟩
  refine Ws.envs hE' ?_
  (repeat' (first | (first | refine Wo.nil ?_ | refine Wd.nil ?_ | ((first | refine Wo.cons ?_ | refine Wd.cons ?_); (try refine W1.go rfl rfl ?_); ((first | refine k1 ?_ | refine k2 ?_ | (refine isCall ?_; first | refine W1.pure rfl rfl (f20_ok (by repeat (first | assumption | apply KVal.cons | apply KVal.app))) ?_ | refine W1.pureB rfl rfl (f47_ok (xs := vs) inI hlv) (fun _ => ?_) (fun _ => ?_) | refine W1.callM rfl rfl ((f43_ok (by repeat (first | assumption | apply KVal.cons | apply KVal.app)) (Vk.of (by assumption))).mono fun bv F' h => ?_) | refine W1.callM rfl rfl ((f55_ok (vs := vs) inI).mono fun fv F' h => ?_)) | refine W1.auto ?_ | ((first | refine kA ?_ | refine kB ?_ | refine kC ?_ | refine kD ?_ | refine kE ?_ | refine kF ?_ | refine kG ?_); refine ⟨fun _ => ?_, fun _ => ?_⟩) | refine W1.alloc (fun _ _ => ?_) | refine W1.boxA rfl (fun _ _ => ?_) | refine kq (fun _ _ => ?_) | refine kp ?_ | (refine isIaddrs ?_; first | refine W1.iaddrI inI rfl rfl (by omega) (fun _ _ _ _ _ _ => ?_) | refine W1.iaddrR inR rfl rfl (by omega) (fun _ _ _ _ _ _ _ => ?_)) | (refine isBox ?_; refine W1.boxS inW (by rfl) (fun _ _ => ?_)) | (refine isBslice ?_; refine W1.bslice (fill_all inC rfl) (fun _ _ => ?_))) <;> (try refine ⟨fun _ => rfl, ?_⟩)))) | (first | refine Ws.seq ?_ | refine Ws.region ?_ | refine Ws.draw (fun bd hbd => ?_) | refine Ws.cond rfl ?_ | refine Ws.skip ?_ | refine Ws.scope ?_ | refine Ws.block ?_ | refine Ws.exit ?_ | refine Ws.ret ?_)))
  (refine FnEnd.ret (F' := F) (vs := [_, _]) (by (first | refine ResF.tmp inW ?_ | refine ResF.cell rfl inF inP ?_); (first | refine ResF.tmp inW ?_ | refine ResF.cell rfl inF inP ?_); exact ResF.nil) inS ⟨?_, rfl⟩)
  rw [cvl_on hchk hvl hoff, bnd_zero, Int.sub_zero]; rfl
end Go.Ax
