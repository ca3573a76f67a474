/-
  Contracts: values that prove a best plan.
-/
import Derived.Test.YtmhbmnonichopaaXV5
namespace Go.Ax
set_option maxHeartbeats 4000000
set_option maxRecDepth 20000
set_option linter.unusedSimpArgs false
set_option linter.unusedVariables false
variable {lo : Nat} {F : Hp}

theorem best_best {k : K} (h : chk k = 0) (h2 : lrow k (mK k) k.sales.length 0 < never) : Best k (bsuf k k.sales.length 0) := by
  obtain ⟨h3, h4, h5⟩ := best_some h h2
  exact ⟨h3, fun q hq => by rw [h4]; exact (h5 q hq).1⟩
/-- values come back that prove what the best plan costs, or the error -/
def ValsR (k : K) (F : Hp) (v : AV) (F' : Hp) : Prop := (∃ e, e ≠ 0 ∧ bestR k = ([], 0, e) ∧ v = .tup [.slc none 0 0 true 0, .int .i64 e] ∧ F' = F) ∨
  ((bestR k).2.2 = 0 ∧ ∃ vv Fo vs, v = .tup [vv, .int .i64 0] ∧ RowI Fo vv vs ∧ vs.length ≤ 9223372036854775807 ∧ cvl k vs = ((bestR k).2.1, 0) ∧ F' = Fo ++ F)
theorem vals_cvl {k : K} (h : chk k = 0) (h2 : lrow k (mK k) k.sales.length 0 < never) {out : List Int} (hl : out.length = k.sales.length) (hd : ∀ d, d < k.sales.length → 0 ≤ out.getD d 0 ∧ out.getD d 0 ≤ 100000 ∧ wv k (bsuf k k.sales.length 0) d k.sales.length ≤ out.getD d 0)
    (hk : Keeps k (bsuf k k.sales.length 0) (fun d => out.getD d 0)) : cvl k out = ((bestR k).2.1, 0) := by
  have hv := Vk.of h
  obtain ⟨h3, h4, h5⟩ := best_some h h2
  have hoff : offVals out = false := off_no fun j hj => by have := hd j (by omega); omega
  have hb := bnd_eq hv h3 (fun d hd' => (hd d hd').1) hk fun d hd' hx => Int.le_trans (wv_pays hd' hx) (hd d hd').2.2
  rw [cvl_on h hl hoff, best_go h h2, hb, h4]
attribute [local irreducible] bestR cvl
theorem f33_ok {k : K} {sv cv : AV} (h : KVal F k sv cv) : Fn tblW lo (fnv 33) [.agg (kl k sv cv)] F (ValsR k F) := by
  have hk := h
  obtain ⟨hs, hc, hls, hlc⟩ := h
  refine Fn.func (fn := af33) rfl rfl ?_
  (repeat' (first | (first | refine Wo.nil ?_ | refine Wd.nil ?_ | ((first | refine Wo.cons ?_ | refine Wd.cons ?_); (try refine W1.go rfl rfl ?_); ((first | refine k1 ?_ | refine k2 ?_ | (refine isCall ?_; first | refine W1.callM rfl rfl ((f53_ok (by repeat (first | assumption | apply KVal.cons | apply KVal.app))).mono fun bv F' h => ?_) | refine W1.callM rfl rfl ((f56_ok hv inI (OwnI.rowI hp (List.subset_append_left _ _)) ((ho.rowR (List.subset_append_left _ _)).cons.app) inF hb).mono fun vv F' h => ?_)) | (refine isBinNeq ?_; refine W1.neq rfl rfl (fun hx => absurd rfl hx) (fun _ => ?_)) | refine W1.auto ?_ | ((first | refine kA ?_ | refine kB ?_ | refine kC ?_ | refine kD ?_ | refine kE ?_ | refine kF ?_ | refine kG ?_); refine ⟨fun _ => ?_, fun _ => ?_⟩) | refine W1.alloc (fun _ _ => ?_) | refine W1.boxA rfl (fun _ _ => ?_) | refine kq (fun _ _ => ?_) | refine kp ?_ | (refine isIaddrs ?_; first | refine W1.iaddrI inI rfl rfl (by omega) (fun _ _ _ _ _ _ => ?_) | refine W1.iaddrR inR rfl rfl (by omega) (fun _ _ _ _ _ _ _ => ?_)) | (refine isBox ?_; refine W1.boxS inW (by rfl) (fun _ _ => ?_)) | (refine isBslice ?_; refine W1.bslice (fill_all inC rfl) (fun _ _ => ?_))) <;> (try refine ⟨fun _ => rfl, ?_⟩)))) | (first | refine Ws.seq ?_ | refine Ws.region ?_ | refine Ws.draw (fun bd hbd => ?_) | refine Ws.cond rfl ?_ | refine Ws.skip ?_ | refine Ws.scope ?_ | refine Ws.block ?_ | refine Ws.exit ?_ | refine Ws.ret ?_)))
  rename_i b0 hb0
  rcases h with ⟨e, hne, hbr, rfl, rfl⟩ | ⟨hchk, hn, bb, ov, Fov, pv, Fp, lst, mb, hbb, ho, hp, hbo, rfl, rfl⟩
  · (repeat' (first | (first | refine Wo.nil ?_ | refine Wd.nil ?_ | ((first | refine Wo.cons ?_ | refine Wd.cons ?_); (try refine W1.go rfl rfl ?_); ((first | refine k1 ?_ | refine k2 ?_ | (refine isCall ?_; first | refine W1.callM rfl rfl ((f53_ok (by repeat (first | assumption | apply KVal.cons | apply KVal.app))).mono fun bv F' h => ?_) | refine W1.callM rfl rfl ((f56_ok hv inI (OwnI.rowI hp (List.subset_append_left _ _)) ((ho.rowR (List.subset_append_left _ _)).cons.app) inF hb).mono fun vv F' h => ?_)) | (refine isBinNeq ?_; refine W1.neq rfl rfl (fun hx => absurd rfl hx) (fun _ => ?_)) | refine W1.auto ?_ | ((first | refine kA ?_ | refine kB ?_ | refine kC ?_ | refine kD ?_ | refine kE ?_ | refine kF ?_ | refine kG ?_); refine ⟨fun _ => ?_, fun _ => ?_⟩) | refine W1.alloc (fun _ _ => ?_) | refine W1.boxA rfl (fun _ _ => ?_) | refine kq (fun _ _ => ?_) | refine kp ?_ | (refine isIaddrs ?_; first | refine W1.iaddrI inI rfl rfl (by omega) (fun _ _ _ _ _ _ => ?_) | refine W1.iaddrR inR rfl rfl (by omega) (fun _ _ _ _ _ _ _ => ?_)) | (refine isBox ?_; refine W1.boxS inW (by rfl) (fun _ _ => ?_)) | (refine isBslice ?_; refine W1.bslice (fill_all inC rfl) (fun _ _ => ?_))) <;> (try refine ⟨fun _ => rfl, ?_⟩)))) | (first | refine Ws.seq ?_ | refine Ws.region ?_ | refine Ws.draw (fun bd hbd => ?_) | refine Ws.cond rfl ?_ | refine Ws.skip ?_ | refine Ws.scope ?_ | refine Ws.block ?_ | refine Ws.exit ?_ | refine Ws.ret ?_)))
    · exact FnEnd.ret (F0 := F) (Q := ValsR k F) (F' := F) (vs := [_, _]) (.tmp inW (.tmp inW .nil)) inS (.inl ⟨e, hne, hbr, rfl, rfl⟩)
    · exact absurd (by assumption) hne
  · have hv := Vk.of hchk
    have hb := best_best hchk hn
    (repeat' (first | (first | refine Wo.nil ?_ | refine Wd.nil ?_ | ((first | refine Wo.cons ?_ | refine Wd.cons ?_); (try refine W1.go rfl rfl ?_); ((first | refine k1 ?_ | refine k2 ?_ | (refine isCall ?_; first | refine W1.callM rfl rfl ((f53_ok (by repeat (first | assumption | apply KVal.cons | apply KVal.app))).mono fun bv F' h => ?_) | refine W1.callM rfl rfl ((f56_ok hv inI (OwnI.rowI hp (List.subset_append_left _ _)) ((ho.rowR (List.subset_append_left _ _)).cons.app) inF hb).mono fun vv F' h => ?_)) | (refine isBinNeq ?_; refine W1.neq rfl rfl (fun hx => absurd rfl hx) (fun _ => ?_)) | refine W1.auto ?_ | ((first | refine kA ?_ | refine kB ?_ | refine kC ?_ | refine kD ?_ | refine kE ?_ | refine kF ?_ | refine kG ?_); refine ⟨fun _ => ?_, fun _ => ?_⟩) | refine W1.alloc (fun _ _ => ?_) | refine W1.boxA rfl (fun _ _ => ?_) | refine kq (fun _ _ => ?_) | refine kp ?_ | (refine isIaddrs ?_; first | refine W1.iaddrI inI rfl rfl (by omega) (fun _ _ _ _ _ _ => ?_) | refine W1.iaddrR inR rfl rfl (by omega) (fun _ _ _ _ _ _ _ => ?_)) | (refine isBox ?_; refine W1.boxS inW (by rfl) (fun _ _ => ?_)) | (refine isBslice ?_; refine W1.bslice (fill_all inC rfl) (fun _ _ => ?_))) <;> (try refine ⟨fun _ => rfl, ?_⟩)))) | (first | refine Ws.seq ?_ | refine Ws.region ?_ | refine Ws.draw (fun bd hbd => ?_) | refine Ws.cond rfl ?_ | refine Ws.skip ?_ | refine Ws.scope ?_ | refine Ws.block ?_ | refine Ws.exit ?_ | refine Ws.ret ?_)))
    obtain ⟨ob, out, hob, hol, hday, hke, rfl, rfl⟩ := h
    (repeat' (first | (first | refine Wo.nil ?_ | refine Wd.nil ?_ | ((first | refine Wo.cons ?_ | refine Wd.cons ?_); (try refine W1.go rfl rfl ?_); ((first | refine k1 ?_ | refine k2 ?_ | (refine isCall ?_; first | refine W1.callM rfl rfl ((f53_ok (by repeat (first | assumption | apply KVal.cons | apply KVal.app))).mono fun bv F' h => ?_) | refine W1.callM rfl rfl ((f56_ok hv inI (OwnI.rowI hp (List.subset_append_left _ _)) ((ho.rowR (List.subset_append_left _ _)).cons.app) inF hb).mono fun vv F' h => ?_)) | (refine isBinNeq ?_; refine W1.neq rfl rfl (fun hx => absurd rfl hx) (fun _ => ?_)) | refine W1.auto ?_ | ((first | refine kA ?_ | refine kB ?_ | refine kC ?_ | refine kD ?_ | refine kE ?_ | refine kF ?_ | refine kG ?_); refine ⟨fun _ => ?_, fun _ => ?_⟩) | refine W1.alloc (fun _ _ => ?_) | refine W1.boxA rfl (fun _ _ => ?_) | refine kq (fun _ _ => ?_) | refine kp ?_ | (refine isIaddrs ?_; first | refine W1.iaddrI inI rfl rfl (by omega) (fun _ _ _ _ _ _ => ?_) | refine W1.iaddrR inR rfl rfl (by omega) (fun _ _ _ _ _ _ _ => ?_)) | (refine isBox ?_; refine W1.boxS inW (by rfl) (fun _ _ => ?_)) | (refine isBslice ?_; refine W1.bslice (fill_all inC rfl) (fun _ _ => ?_))) <;> (try refine ⟨fun _ => rfl, ?_⟩)))) | (first | refine Ws.seq ?_ | refine Ws.region ?_ | refine Ws.draw (fun bd hbd => ?_) | refine Ws.cond rfl ?_ | refine Ws.skip ?_ | refine Ws.scope ?_ | refine Ws.block ?_ | refine Ws.exit ?_ | refine Ws.ret ?_)))
    refine FnEnd.ret (F0 := F) (Q := ValsR k F) (F' := (ob, .cells (ints out) true) :: F) (vs := [_, _]) (.tmp inW (.tmp inW .nil)) ?_ (.inr ⟨by rw [best_go hchk hn], .slc (some (ob, 0)) k.sales.length k.sales.length true 1, [(ob, .cells (ints out) true)], out, rfl, RowI.lit (List.mem_singleton.2 rfl) hol.symm, by omega, vals_cvl hchk hn hol hday hke, rfl⟩)
    exact .cons_cons _ (List.Sublist.trans (.cons _ (List.Sublist.trans (.cons _ (List.Sublist.refl _)) (List.sublist_append_right _ _))) (List.sublist_append_right _ _))
end Go.Ax
