/-
  The law OrderProved: in each run the machine's answer is true.
-/
import Derived.Test.YtmhbmnonichopaaXP8
namespace Go.Ax
set_option maxHeartbeats 8000000
set_option maxRecDepth 6000
set_option linter.unusedSimpArgs false
set_option linter.unusedVariables false
variable {lo : Nat} {F : Hp}
theorem f34_t {k : K} {sv cv : AV} (hk : KVal F k sv cv) (h : chk k = 0) : Pure tblW (fnv 34) [.agg (kl k sv cv)] F (.bool true) := by
  have := f34_ok hk
  rwa [decide_eq_true h] at this
theorem f34_f {k : K} {sv cv : AV} (hk : KVal F k sv cv) (h : ¬ chk k = 0) : Pure tblW (fnv 34) [.agg (kl k sv cv)] F (.bool false) := by
  have := f34_ok hk
  rwa [decide_eq_false h] at this
/-- what is known of a given plan -/
theorem good_facts {k : K} (hchk : chk k = 0) {some_ : List Int} (hs : some_.length = k.sales.length) (hoff : offVals some_ = false) (q : List Int) (h : (cpv k q).2 = 0) :
    (bestR k).2.2 = 0 ∧ (cvl k some_).1 ≤ (cpv k q).1 ∧ (bestR k).2.1 ≤ (cpv k q).1 ∧ ((cpv k q).1 = (bestR k).2.1 → before q (bestR k).1 = false) := by
  have hv := Vk.of hchk
  obtain ⟨_, hg, hc⟩ := cpv_zero h
  rcases best_iff hchk with ⟨h1, h2, h3, h4⟩ | ⟨_, h1⟩
  · obtain ⟨h5, h6⟩ := h4 q hg
    rw [hc]
    exact ⟨h1, by rw [cvl_on hchk hs hoff]; exact bnd_le hv hg, h5, h6⟩
  · exact absurd hg (h1 q)
attribute [local irreducible] cpv bestR cvl
theorem f8_ok {k : K} {sv cv bv gv wv : AV} {byl given vl : List Int} (hk : KVal F k sv cv) (hby : NumsV F .u8 255 bv byl) (hgv : RowI F gv given) (hlg : given.length ≤ 9223372036854775807) (hvl : NumsV F .u32 4294967295 wv vl) : Pure tblW (fnv 8) [.agg (kl k sv cv), bv, gv, wv] F (.bool true) := by
  intro lo
  have hlb := hby.len
  have hlv := hvl.len
  refine Fn.func (fn := af8) rfl rfl ?_
  by_cases hchk : chk k = 0
  rotate_left
  · (repeat' (first | (first | refine Wo.nil ?_ | refine Wd.nil ?_ | ((first | refine Wo.cons ?_ | refine Wd.cons ?_); (try refine W1.go rfl rfl ?_); ((first | refine k1 ?_ | refine k2 ?_ | (refine isDst 4 ?_; refine W1.boxA rfl (fun b0 hb0 => ?_)) | (refine isDst 34 ?_; refine W1.lenZ hby.row.cons rfl ?_) | (refine isDst 44 ?_; refine W1.lenZ hvl.row.cons rfl ?_) | (refine isDst 39 ?_; refine W1.lenI hgv.cons rfl ?_) | (refine isCall ?_; first | refine W1.pure rfl rfl (f34_t hk.cons hchk) ?_ | refine W1.pure rfl rfl (f34_f hk.cons hchk) ?_ | refine W1.pure rfl rfl f15_ok ?_) | refine W1.auto ?_ | ((first | refine kA ?_ | refine kB ?_ | refine kC ?_ | refine kD ?_ | refine kE ?_ | refine kF ?_ | refine kG ?_); refine ⟨fun _ => ?_, fun _ => ?_⟩) | refine W1.alloc (fun _ _ => ?_) | refine W1.boxA rfl (fun _ _ => ?_) | refine kq (fun _ _ => ?_) | refine kp ?_ | (refine isIaddrs ?_; first | refine W1.iaddrI inI rfl rfl (by omega) (fun _ _ _ _ _ _ => ?_) | refine W1.iaddrR inR rfl rfl (by omega) (fun _ _ _ _ _ _ _ => ?_)) | (refine isBox ?_; refine W1.boxS inW (by rfl) (fun _ _ => ?_)) | (refine isBslice ?_; refine W1.bslice (fill_all inC rfl) (fun _ _ => ?_))) <;> (try refine ⟨fun _ => rfl, ?_⟩)))) | (first | refine Ws.seq ?_ | refine Ws.region ?_ | refine Ws.draw (fun bd hbd => ?_) | refine Ws.cond rfl ?_ | refine Ws.skip ?_ | refine Ws.scope ?_ | refine Ws.block ?_ | refine Ws.exit ?_ | refine Ws.ret ?_)))
    (refine FnEnd.ret (F' := F) (vs := [_]) (by (first | refine ResF.tmp inW ?_ | refine ResF.cell rfl inF inP ?_); exact ResF.nil) inS ⟨?_, rfl⟩)
    rfl
  · have hv := Vk.of hchk
    have h7 := hv.n2
    (repeat' (first | (first | refine Wo.nil ?_ | refine Wd.nil ?_ | ((first | refine Wo.cons ?_ | refine Wd.cons ?_); (try refine W1.go rfl rfl ?_); ((first | refine k1 ?_ | refine k2 ?_ | (refine isDst 4 ?_; refine W1.boxA rfl (fun b0 hb0 => ?_)) | (refine isDst 34 ?_; refine W1.lenZ hby.row.cons rfl ?_) | (refine isDst 44 ?_; refine W1.lenZ hvl.row.cons rfl ?_) | (refine isDst 39 ?_; refine W1.lenI hgv.cons rfl ?_) | (refine isCall ?_; first | refine W1.pure rfl rfl (f34_t hk.cons hchk) ?_ | refine W1.pure rfl rfl (f34_f hk.cons hchk) ?_ | refine W1.pure rfl rfl f15_ok ?_) | refine W1.auto ?_ | ((first | refine kA ?_ | refine kB ?_ | refine kC ?_ | refine kD ?_ | refine kE ?_ | refine kF ?_ | refine kG ?_); refine ⟨fun _ => ?_, fun _ => ?_⟩) | refine W1.alloc (fun _ _ => ?_) | refine W1.boxA rfl (fun _ _ => ?_) | refine kq (fun _ _ => ?_) | refine kp ?_ | (refine isIaddrs ?_; first | refine W1.iaddrI inI rfl rfl (by omega) (fun _ _ _ _ _ _ => ?_) | refine W1.iaddrR inR rfl rfl (by omega) (fun _ _ _ _ _ _ _ => ?_)) | (refine isBox ?_; refine W1.boxS inW (by rfl) (fun _ _ => ?_)) | (refine isBslice ?_; refine W1.bslice (fill_all inC rfl) (fun _ _ => ?_))) <;> (try refine ⟨fun _ => rfl, ?_⟩)))) | (first | refine Ws.seq ?_ | refine Ws.region ?_ | refine Ws.draw (fun bd hbd => ?_) | refine Ws.cond rfl ?_ | refine Ws.skip ?_ | refine Ws.scope ?_ | refine Ws.block ?_ | refine Ws.exit ?_ | refine Ws.ret ?_)))
    · (refine FnEnd.ret (F' := F) (vs := [_]) (by (first | refine ResF.tmp inW ?_ | refine ResF.cell rfl inF inP ?_); exact ResF.nil) inS ⟨?_, rfl⟩)
      rfl
    · (refine FnEnd.ret (F' := F) (vs := [_]) (by (first | refine ResF.tmp inW ?_ | refine ResF.cell rfl inF inP ?_); exact ResF.nil) inS ⟨?_, rfl⟩)
      rfl
    · (refine FnEnd.ret (F' := F) (vs := [_]) (by (first | refine ResF.tmp inW ?_ | refine ResF.cell rfl inF inP ?_); exact ResF.nil) inS ⟨?_, rfl⟩)
      rfl
    refine Ws.fresh (l := (9, .slc none 0 0 true 0) :: (10, AV.int .i64 0) :: [(1, bv), (2, gv), (3, wv), (4, .ptr (some (b0, 0)))]) ⟨rfl, rfl, rfl, rfl, rfl, rfl, trivial⟩ (fun B => ?_)
    refine (f8_some hk hv hvl).mono ?_
    rintro r E' G ⟨rfl, av, Fo, som, hE', hso, hsl, hsoff, rfl⟩
    refine Ws.fresh hE' (fun B2 => ?_)
    have hG1 : ∀ z, z ∈ F → z ∈ (Fo ++ ((b0, .cells (kl k sv cv) true) :: F)) := fun z hz => List.mem_append_right _ (List.mem_cons_of_mem _ hz)
    have hm1 : (b0, ABlk.cells (kl k sv cv) true) ∈ (Fo ++ ((b0, .cells (kl k sv cv) true) :: F)) := List.mem_append_right _ (List.mem_cons_self ..)
    have h31 := f31_ok (hk.mono hG1) (hso.mono (F' := (Fo ++ ((b0, .cells (kl k sv cv) true) :: F))) (List.subset_append_left _ _)) (by omega)
    (repeat' (first | (first | refine Wo.nil ?_ | refine Wd.nil ?_ | ((first | refine Wo.cons ?_ | refine Wd.cons ?_); (try refine W1.go rfl rfl ?_); ((first | refine k1 ?_ | refine k2 ?_ | (refine isDst 72 ?_; refine W1.loadA rfl hm1 rfl ?_) | (refine isDst 78 ?_; refine W1.loadA rfl hm1 rfl ?_) | (refine isCall ?_; refine W1.pure rfl rfl h31 ?_) | refine W1.auto ?_ | ((first | refine kA ?_ | refine kB ?_ | refine kC ?_ | refine kD ?_ | refine kE ?_ | refine kF ?_ | refine kG ?_); refine ⟨fun _ => ?_, fun _ => ?_⟩) | refine W1.alloc (fun _ _ => ?_) | refine W1.boxA rfl (fun _ _ => ?_) | refine kq (fun _ _ => ?_) | refine kp ?_ | (refine isIaddrs ?_; first | refine W1.iaddrI inI rfl rfl (by omega) (fun _ _ _ _ _ _ => ?_) | refine W1.iaddrR inR rfl rfl (by omega) (fun _ _ _ _ _ _ _ => ?_)) | (refine isBox ?_; refine W1.boxS inW (by rfl) (fun _ _ => ?_)) | (refine isBslice ?_; refine W1.bslice (fill_all inC rfl) (fun _ _ => ?_))) <;> (try refine ⟨fun _ => rfl, ?_⟩)))) | (first | refine Ws.seq ?_ | refine Ws.region ?_ | refine Ws.draw (fun bd hbd => ?_) | refine Ws.cond rfl ?_ | refine Ws.skip ?_ | refine Ws.scope ?_ | refine Ws.block ?_ | refine Ws.exit ?_ | refine Ws.ret ?_)))
    refine Wo.cons (W1.callM rfl rfl ((f26_ok (hk.mono hG1)).mono fun v F' h => ?_))
    obtain ⟨bov, Fb, rfl, hbo, rfl⟩ := h
    have hc2 : (cvl k som).2 = 0 := by rw [cvl_on hchk hsl hsoff]
    have hfact := good_facts hchk hsl hsoff
    refine Wo.fresh (l := [(1, bv), (2, gv), (4, .ptr (some (b0, 0))), (12, .int .i64 (cvl k som).1), (13, .int .i64 (cvl k som).2), (79, .tup [bov, .int .i64 (bestR k).2.1, .int .i64 (bestR k).2.2])]) ⟨rfl, rfl, rfl, rfl, rfl, rfl, trivial⟩ (fun B3 => ?_)
    have hG2 : ∀ z, z ∈ F → z ∈ (Fb ++ (Fo ++ ((b0, .cells (kl k sv cv) true) :: F))) := fun z hz => List.mem_append_right _ (hG1 z hz)
    have hm2 : (b0, ABlk.cells (kl k sv cv) true) ∈ (Fb ++ (Fo ++ ((b0, .cells (kl k sv cv) true) :: F))) := List.mem_append_right _ hm1
    have hbest : (bestR k).1.length ≤ 20 := by
      rcases best_iff hchk with ⟨_, h, _⟩ | ⟨h, _⟩
      · rw [h.len]; exact h7
      · rw [h]; exact Nat.zero_le _
    have hb13 : (bestR k).2.2 = 0 ∨ (bestR k).2.2 = 13 := by
      rcases best_iff hchk with ⟨h, _⟩ | ⟨h, _⟩
      · exact .inl h
      · rw [h]; exact .inr rfl
    have hgc := hgv.cell
    by_cases hb0' : (bestR k).2.2 = 0
    · (repeat' (first | (first | refine Wo.nil ?_ | refine Wd.nil ?_ | ((first | refine Wo.cons ?_ | refine Wd.cons ?_); (try refine W1.go rfl rfl ?_); ((first | refine k1 ?_ | refine k2 ?_ | refine W1.cA ?_ | (refine isDst 93 ?_; refine W1.loadA rfl hm2 rfl ?_) | refine W1.auto ?_ | ((first | refine kA ?_ | refine kB ?_ | refine kC ?_ | refine kD ?_ | refine kE ?_ | refine kF ?_ | refine kG ?_); refine ⟨fun _ => ?_, fun _ => ?_⟩) | refine W1.alloc (fun _ _ => ?_) | refine W1.boxA rfl (fun _ _ => ?_) | refine kq (fun _ _ => ?_) | refine kp ?_ | (refine isIaddrs ?_; first | refine W1.iaddrI inI rfl rfl (by omega) (fun _ _ _ _ _ _ => ?_) | refine W1.iaddrR inR rfl rfl (by omega) (fun _ _ _ _ _ _ _ => ?_)) | (refine isBox ?_; refine W1.boxS inW (by rfl) (fun _ _ => ?_)) | (refine isBslice ?_; refine W1.bslice (fill_all inC rfl) (fun _ _ => ?_))) <;> (try refine ⟨fun _ => rfl, ?_⟩)))) | (first | refine Ws.seq ?_ | refine Ws.region ?_ | refine Ws.draw (fun bd hbd => ?_) | refine Ws.cond rfl ?_ | refine Ws.skip ?_ | refine Ws.scope ?_ | refine Ws.block ?_ | refine Ws.exit ?_ | refine Ws.ret ?_)))
      refine Wo.cons (W1.callM rfl rfl ((f35_ok (hk.mono hG2) hchk (hby.mono hG2)).mono fun v F' h => ?_))
      obtain ⟨Fp, p, hp, hpl, rfl⟩ := h
      have hpc := hp.cell
      have hH : ∀ z, z ∈ F → z ∈ Fp ++ (Fb ++ (Fo ++ ((b0, .cells (kl k sv cv) true) :: F))) := fun z hz => List.mem_append_right _ (hG2 z hz)
      refine Wo.fresh (l := [(2, gv), (4, .ptr (some (b0, 0))), (12, .int .i64 (cvl k som).1), (14, bov), (15, .int .i64 (bestR k).2.1), (16, .int .i64 (bestR k).2.2), (95, v)]) ⟨rfl, rfl, rfl, rfl, rfl, rfl, rfl, trivial⟩ (fun B4 => ?_)
      (repeat' (first | (first | refine Wo.nil ?_ | refine Wd.nil ?_ | ((first | refine Wo.cons ?_ | refine Wd.cons ?_); (try refine W1.go rfl rfl ?_); ((first | refine k1 ?_ | refine k2 ?_ | (refine isDst 97 ?_; refine W1.bslice (fill2 rfl rfl hpc hgc) (fun lb hlb2 => ?_)) | refine W1.auto ?_ | ((first | refine kA ?_ | refine kB ?_ | refine kC ?_ | refine kD ?_ | refine kE ?_ | refine kF ?_ | refine kG ?_); refine ⟨fun _ => ?_, fun _ => ?_⟩) | refine W1.alloc (fun _ _ => ?_) | refine W1.boxA rfl (fun _ _ => ?_) | refine kq (fun _ _ => ?_) | refine kp ?_ | (refine isIaddrs ?_; first | refine W1.iaddrI inI rfl rfl (by omega) (fun _ _ _ _ _ _ => ?_) | refine W1.iaddrR inR rfl rfl (by omega) (fun _ _ _ _ _ _ _ => ?_)) | (refine isBox ?_; refine W1.boxS inW (by rfl) (fun _ _ => ?_)) | (refine isBslice ?_; refine W1.bslice (fill_all inC rfl) (fun _ _ => ?_))) <;> (try refine ⟨fun _ => rfl, ?_⟩)))) | (first | refine Ws.seq ?_ | refine Ws.region ?_ | refine Ws.draw (fun bd hbd => ?_) | refine Ws.cond rfl ?_ | refine Ws.skip ?_ | refine Ws.scope ?_ | refine Ws.block ?_ | refine Ws.exit ?_ | refine Ws.ret ?_)))
      refine Ws.fresh (l := (18, .int .i64 0) :: [(4, .ptr (some (b0, 0))), (12, .int .i64 (cvl k som).1), (14, bov), (15, .int .i64 (bestR k).2.1), (16, .int .i64 (bestR k).2.2), (17, .slc (some (lb, 0)) 2 2 true 1)]) ⟨rfl, rfl, rfl, rfl, rfl, rfl, rfl, trivial⟩ (fun B5 => ?_)
      refine (f8_plans (hk.mono hH) (List.mem_append_right _ hm2) (hp.mono (List.subset_append_left _ _)) (hgv.mono hH) (hbo.mono (fun z hz => List.mem_append_right _ (List.mem_append_left _ hz))) (by omega) (by omega) (by omega) hfact).mono ?_
      rintro r E' G ⟨rfl, hE', rfl⟩
      refine Ws.fresh hE' (fun B6 => ?_)
      have hG4 : ∀ z, z ∈ F → z ∈ ((lb, ABlk.cells [v, gv] true) :: (Fp ++ (Fb ++ (Fo ++ ((b0, .cells (kl k sv cv) true) :: F))))) := fun z hz => List.mem_cons_of_mem _ (hH z hz)
      have hm4 : (b0, ABlk.cells (kl k sv cv) true) ∈ ((lb, ABlk.cells [v, gv] true) :: (Fp ++ (Fb ++ (Fo ++ ((b0, .cells (kl k sv cv) true) :: F))))) := List.mem_cons_of_mem _ (List.mem_append_right _ hm2)
      (repeat' (first | (first | refine Wo.nil ?_ | refine Wd.nil ?_ | ((first | refine Wo.cons ?_ | refine Wd.cons ?_); (try refine W1.go rfl rfl ?_); ((first | refine k1 ?_ | refine k2 ?_ | refine W1.cA ?_ | (refine isDst 142 ?_; refine W1.loadA rfl hm4 rfl ?_) | refine W1.auto ?_ | ((first | refine kA ?_ | refine kB ?_ | refine kC ?_ | refine kD ?_ | refine kE ?_ | refine kF ?_ | refine kG ?_); refine ⟨fun _ => ?_, fun _ => ?_⟩) | refine W1.alloc (fun _ _ => ?_) | refine W1.boxA rfl (fun _ _ => ?_) | refine kq (fun _ _ => ?_) | refine kp ?_ | (refine isIaddrs ?_; first | refine W1.iaddrI inI rfl rfl (by omega) (fun _ _ _ _ _ _ => ?_) | refine W1.iaddrR inR rfl rfl (by omega) (fun _ _ _ _ _ _ _ => ?_)) | (refine isBox ?_; refine W1.boxS inW (by rfl) (fun _ _ => ?_)) | (refine isBslice ?_; refine W1.bslice (fill_all inC rfl) (fun _ _ => ?_))) <;> (try refine ⟨fun _ => rfl, ?_⟩)))) | (first | refine Ws.seq ?_ | refine Ws.region ?_ | refine Ws.draw (fun bd hbd => ?_) | refine Ws.cond rfl ?_ | refine Ws.skip ?_ | refine Ws.scope ?_ | refine Ws.block ?_ | refine Ws.exit ?_ | refine Ws.ret ?_)))
      refine Wo.cons (W1.callM rfl rfl ((f33_ok (hk.mono hG4)).mono fun v2 F' h => ?_))
      rcases h with ⟨e, hne, hbr, _, _⟩ | ⟨_, vv, Fv, vs, rfl, hvv, hvl2, hcv, rfl⟩
      · rw [hbr] at hb0'
        exact absurd hb0' hne
      refine Wo.fresh (l := [(4, .ptr (some (b0, 0))), (12, .int .i64 (cvl k som).1), (14, bov), (15, .int .i64 (bestR k).2.1), (143, .tup [vv, .int .i64 0])]) ⟨rfl, rfl, rfl, rfl, rfl, trivial⟩ (fun B7 => ?_)
      have hG5 : ∀ z, z ∈ F → z ∈ (Fv ++ ((lb, ABlk.cells [v, gv] true) :: (Fp ++ (Fb ++ (Fo ++ ((b0, .cells (kl k sv cv) true) :: F)))))) := fun z hz => List.mem_append_right _ (hG4 z hz)
      have hm5 : (b0, ABlk.cells (kl k sv cv) true) ∈ (Fv ++ ((lb, ABlk.cells [v, gv] true) :: (Fp ++ (Fb ++ (Fo ++ ((b0, .cells (kl k sv cv) true) :: F)))))) := List.mem_append_right _ hm4
      have hvv5 : RowI (Fv ++ ((lb, ABlk.cells [v, gv] true) :: (Fp ++ (Fb ++ (Fo ++ ((b0, .cells (kl k sv cv) true) :: F)))))) vv vs := hvv.mono (List.subset_append_left _ _)
      have hbo5 : RowI (Fv ++ ((lb, ABlk.cells [v, gv] true) :: (Fp ++ (Fb ++ (Fo ++ ((b0, .cells (kl k sv cv) true) :: F)))))) bov (bestR k).1 := hbo.mono (fun z hz => List.mem_append_right _ (List.mem_cons_of_mem _ (List.mem_append_right _ (List.mem_append_left _ hz))))
      have hcp : cpv k (bestR k).1 = ((bestR k).2.1, 0) := by
        rcases best_iff hchk with ⟨_, hg, hc, _⟩ | ⟨h, _⟩
        · rw [cpv_good hchk hg, hc]
        · rw [h] at hb0'; exact absurd hb0' (by decide)
      have hle : (cvl k som).1 ≤ (bestR k).2.1 := by
        have := (hfact (bestR k).1 (by rw [hcp])).2.1
        rwa [hcp] at this
      have h31b := f31_ok (hk.mono hG5) hvv5 hvl2
      have h32b := f32_ok (hk.mono hG5) hvv5 hvl2
      have h19b := f19_ok (hk.mono hG5) hbo5 (by omega)
      rw [hcv] at h31b h32b
      rw [hcp] at h19b
      (repeat' (first | (first | refine Wo.nil ?_ | refine Wd.nil ?_ | ((first | refine Wo.cons ?_ | refine Wd.cons ?_); (try refine W1.go rfl rfl ?_); ((first | refine k1 ?_ | refine k2 ?_ | refine W1.cA ?_ | (refine isDst 147 ?_; refine W1.loadA rfl hm5 rfl ?_) | (refine isDst 153 ?_; refine W1.loadA rfl hm5 rfl ?_) | (refine isDst 159 ?_; refine W1.loadA rfl hm5 rfl ?_) | (refine isBinEql ?_; refine W1.eqlT rfl rfl rfl ?_) | (refine isCall ?_; first | refine W1.pure rfl rfl h31b ?_ | refine W1.pure rfl rfl h32b ?_ | refine W1.pure rfl rfl h19b ?_ | refine W1.pure rfl rfl f15_ok ?_) | refine W1.auto ?_ | ((first | refine kA ?_ | refine kB ?_ | refine kC ?_ | refine kD ?_ | refine kE ?_ | refine kF ?_ | refine kG ?_); refine ⟨fun _ => ?_, fun _ => ?_⟩) | refine W1.alloc (fun _ _ => ?_) | refine W1.boxA rfl (fun _ _ => ?_) | refine kq (fun _ _ => ?_) | refine kp ?_ | (refine isIaddrs ?_; first | refine W1.iaddrI inI rfl rfl (by omega) (fun _ _ _ _ _ _ => ?_) | refine W1.iaddrR inR rfl rfl (by omega) (fun _ _ _ _ _ _ _ => ?_)) | (refine isBox ?_; refine W1.boxS inW (by rfl) (fun _ _ => ?_)) | (refine isBslice ?_; refine W1.bslice (fill_all inC rfl) (fun _ _ => ?_))) <;> (try refine ⟨fun _ => rfl, ?_⟩)))) | (first | refine Ws.seq ?_ | refine Ws.region ?_ | refine Ws.draw (fun bd hbd => ?_) | refine Ws.cond rfl ?_ | refine Ws.skip ?_ | refine Ws.scope ?_ | refine Ws.block ?_ | refine Ws.exit ?_ | refine Ws.ret ?_)))
      (refine FnEnd.ret (F' := F) (vs := [_]) (by (first | refine ResF.tmp inW ?_ | refine ResF.cell rfl inF inP ?_); exact ResF.nil) inS ⟨?_, rfl⟩)
      rfl
    · have hb13' : (bestR k).2.2 = 13 := by omega
      (repeat' (first | (first | refine Wo.nil ?_ | refine Wd.nil ?_ | ((first | refine Wo.cons ?_ | refine Wd.cons ?_); (try refine W1.go rfl rfl ?_); ((first | refine k1 ?_ | refine k2 ?_ | refine W1.cA ?_ | (refine isDst 93 ?_; refine W1.loadA rfl hm2 rfl ?_) | refine W1.auto ?_ | ((first | refine kA ?_ | refine kB ?_ | refine kC ?_ | refine kD ?_ | refine kE ?_ | refine kF ?_ | refine kG ?_); refine ⟨fun _ => ?_, fun _ => ?_⟩) | refine W1.alloc (fun _ _ => ?_) | refine W1.boxA rfl (fun _ _ => ?_) | refine kq (fun _ _ => ?_) | refine kp ?_ | (refine isIaddrs ?_; first | refine W1.iaddrI inI rfl rfl (by omega) (fun _ _ _ _ _ _ => ?_) | refine W1.iaddrR inR rfl rfl (by omega) (fun _ _ _ _ _ _ _ => ?_)) | (refine isBox ?_; refine W1.boxS inW (by rfl) (fun _ _ => ?_)) | (refine isBslice ?_; refine W1.bslice (fill_all inC rfl) (fun _ _ => ?_))) <;> (try refine ⟨fun _ => rfl, ?_⟩)))) | (first | refine Ws.seq ?_ | refine Ws.region ?_ | refine Ws.draw (fun bd hbd => ?_) | refine Ws.cond rfl ?_ | refine Ws.skip ?_ | refine Ws.scope ?_ | refine Ws.block ?_ | refine Ws.exit ?_ | refine Ws.ret ?_)))
      refine Wo.cons (W1.callM rfl rfl ((f35_ok (hk.mono hG2) hchk (hby.mono hG2)).mono fun v F' h => ?_))
      obtain ⟨Fp, p, hp, hpl, rfl⟩ := h
      have hpc := hp.cell
      have hH : ∀ z, z ∈ F → z ∈ Fp ++ (Fb ++ (Fo ++ ((b0, .cells (kl k sv cv) true) :: F))) := fun z hz => List.mem_append_right _ (hG2 z hz)
      refine Wo.fresh (l := [(2, gv), (4, .ptr (some (b0, 0))), (12, .int .i64 (cvl k som).1), (14, bov), (15, .int .i64 (bestR k).2.1), (16, .int .i64 (bestR k).2.2), (95, v)]) ⟨rfl, rfl, rfl, rfl, rfl, rfl, rfl, trivial⟩ (fun B4 => ?_)
      (repeat' (first | (first | refine Wo.nil ?_ | refine Wd.nil ?_ | ((first | refine Wo.cons ?_ | refine Wd.cons ?_); (try refine W1.go rfl rfl ?_); ((first | refine k1 ?_ | refine k2 ?_ | (refine isDst 97 ?_; refine W1.bslice (fill2 rfl rfl hpc hgc) (fun lb hlb2 => ?_)) | refine W1.auto ?_ | ((first | refine kA ?_ | refine kB ?_ | refine kC ?_ | refine kD ?_ | refine kE ?_ | refine kF ?_ | refine kG ?_); refine ⟨fun _ => ?_, fun _ => ?_⟩) | refine W1.alloc (fun _ _ => ?_) | refine W1.boxA rfl (fun _ _ => ?_) | refine kq (fun _ _ => ?_) | refine kp ?_ | (refine isIaddrs ?_; first | refine W1.iaddrI inI rfl rfl (by omega) (fun _ _ _ _ _ _ => ?_) | refine W1.iaddrR inR rfl rfl (by omega) (fun _ _ _ _ _ _ _ => ?_)) | (refine isBox ?_; refine W1.boxS inW (by rfl) (fun _ _ => ?_)) | (refine isBslice ?_; refine W1.bslice (fill_all inC rfl) (fun _ _ => ?_))) <;> (try refine ⟨fun _ => rfl, ?_⟩)))) | (first | refine Ws.seq ?_ | refine Ws.region ?_ | refine Ws.draw (fun bd hbd => ?_) | refine Ws.cond rfl ?_ | refine Ws.skip ?_ | refine Ws.scope ?_ | refine Ws.block ?_ | refine Ws.exit ?_ | refine Ws.ret ?_)))
      refine Ws.fresh (l := (18, .int .i64 0) :: [(4, .ptr (some (b0, 0))), (12, .int .i64 (cvl k som).1), (14, bov), (15, .int .i64 (bestR k).2.1), (16, .int .i64 (bestR k).2.2), (17, .slc (some (lb, 0)) 2 2 true 1)]) ⟨rfl, rfl, rfl, rfl, rfl, rfl, rfl, trivial⟩ (fun B5 => ?_)
      refine (f8_plans (hk.mono hH) (List.mem_append_right _ hm2) (hp.mono (List.subset_append_left _ _)) (hgv.mono hH) (hbo.mono (fun z hz => List.mem_append_right _ (List.mem_append_left _ hz))) (by omega) (by omega) (by omega) hfact).mono ?_
      rintro r E' G ⟨rfl, hE', rfl⟩
      refine Ws.fresh hE' (fun B6 => ?_)
      (repeat' (first | (first | refine Wo.nil ?_ | refine Wd.nil ?_ | ((first | refine Wo.cons ?_ | refine Wd.cons ?_); (try refine W1.go rfl rfl ?_); ((first | refine k1 ?_ | refine k2 ?_ | refine W1.cA ?_ | (refine isCall ?_; refine W1.pure rfl rfl f15_ok ?_) | refine W1.auto ?_ | ((first | refine kA ?_ | refine kB ?_ | refine kC ?_ | refine kD ?_ | refine kE ?_ | refine kF ?_ | refine kG ?_); refine ⟨fun _ => ?_, fun _ => ?_⟩) | refine W1.alloc (fun _ _ => ?_) | refine W1.boxA rfl (fun _ _ => ?_) | refine kq (fun _ _ => ?_) | refine kp ?_ | (refine isIaddrs ?_; first | refine W1.iaddrI inI rfl rfl (by omega) (fun _ _ _ _ _ _ => ?_) | refine W1.iaddrR inR rfl rfl (by omega) (fun _ _ _ _ _ _ _ => ?_)) | (refine isBox ?_; refine W1.boxS inW (by rfl) (fun _ _ => ?_)) | (refine isBslice ?_; refine W1.bslice (fill_all inC rfl) (fun _ _ => ?_))) <;> (try refine ⟨fun _ => rfl, ?_⟩)))) | (first | refine Ws.seq ?_ | refine Ws.region ?_ | refine Ws.draw (fun bd hbd => ?_) | refine Ws.cond rfl ?_ | refine Ws.skip ?_ | refine Ws.scope ?_ | refine Ws.block ?_ | refine Ws.exit ?_ | refine Ws.ret ?_)))
      (refine FnEnd.ret (F' := F) (vs := [_]) (by (first | refine ResF.tmp inW ?_ | refine ResF.cell rfl inF inP ?_); exact ResF.nil) inS ⟨?_, rfl⟩)
      rfl
end Go.Ax
