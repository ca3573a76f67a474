/-
  The law OrderKept: in each run the machine's answer is true.
-/
import Derived.Test.YtmhbmnonichopaaXP7c
import Derived.Test.YtmhbmnonichopaaXU6
namespace Go.Ax
set_option maxHeartbeats 4000000
set_option maxRecDepth 6000
set_option linter.unusedSimpArgs false
set_option linter.unusedVariables false
variable {lo : Nat} {F : Hp}
theorem fill3 {E : FE} {x y w : AO} {u v t z1 z2 z3 : AV} (hx : xev E x = u) (hy : xev E y = v) (hw : xev E w = t) (hu : u.cells = some [u]) (hv : v.cells = some [v]) (ht : t.cells = some [t]) : fillF E [z1, z2, z3] [(0, 1, x), (1, 1, y), (2, 1, w)] = some [u, v, t] := by
  simp [fillF, hx, hy, hw, hu, hv, ht]
theorem f34_t {k : K} {sv cv : AV} (hk : KVal F k sv cv) (h : chk k = 0) : Pure tblW (fnv 34) [.agg (kl k sv cv)] F (.bool true) := by
  have := f34_ok hk
  rwa [decide_eq_true h] at this
theorem f34_f {k : K} {sv cv : AV} (hk : KVal F k sv cv) (h : ¬ chk k = 0) : Pure tblW (fnv 34) [.agg (kl k sv cv)] F (.bool false) := by
  have := f34_ok hk
  rwa [decide_eq_false h] at this
theorem f21_at {k : K} {sv cv : AV} (hk : KVal F k sv cv) (h : chk k = 0) : Pure tblW (fnv 21) [.agg (kl k sv cv)] F (.int .i64 0) := by
  have := f21_ok hk
  rwa [h] at this
attribute [local irreducible] bestR cpv
theorem f7_ok {k : K} {sv cv bv gv wv : AV} {byl given trl : List Int} (hk : KVal F k sv cv) (hby : NumsV F .u8 255 bv byl) (htr : NumsV F .u32 4294967295 wv trl) (hgv : RowI F gv given) (hlg : given.length ≤ 9223372036854775807) : Pure tblW (fnv 7) [.agg (kl k sv cv), bv, wv, gv] F (.bool true) := by
  intro lo
  have hlb := hby.len
  have hlt := htr.len
  refine Fn.func (fn := af7) rfl rfl ?_
  by_cases hchk : chk k = 0
  rotate_left
  · (repeat' (first | (first | refine Wo.nil ?_ | refine Wd.nil ?_ | ((first | refine Wo.cons ?_ | refine Wd.cons ?_); (try refine W1.go rfl rfl ?_); ((first | refine k1 ?_ | refine k2 ?_ | (refine isDst 4 ?_; refine W1.boxA rfl (fun b4 hb4 => ?_)) | (refine isDst 36 ?_; refine W1.lenZ hby.row.cons rfl ?_) | (refine isDst 41 ?_; refine W1.lenZ htr.row.cons rfl ?_) | (refine isDst 46 ?_; refine W1.lenI hgv.cons rfl ?_) | (refine isCall ?_; first | refine W1.pure rfl rfl (f34_t hk.cons hchk) ?_ | refine W1.pure rfl rfl (f34_f hk.cons hchk) ?_ | refine W1.pure rfl rfl f15_ok ?_) | refine W1.auto ?_ | ((first | refine kA ?_ | refine kB ?_ | refine kC ?_ | refine kD ?_ | refine kE ?_ | refine kF ?_ | refine kG ?_); refine ⟨fun _ => ?_, fun _ => ?_⟩) | refine W1.alloc (fun _ _ => ?_) | refine W1.boxA rfl (fun _ _ => ?_) | refine kq (fun _ _ => ?_) | refine kp ?_ | (refine isIaddrs ?_; first | refine W1.iaddrI inI rfl rfl (by omega) (fun _ _ _ _ _ _ => ?_) | refine W1.iaddrR inR rfl rfl (by omega) (fun _ _ _ _ _ _ _ => ?_)) | (refine isBox ?_; refine W1.boxS inW (by rfl) (fun _ _ => ?_)) | (refine isBslice ?_; refine W1.bslice (fill_all inC rfl) (fun _ _ => ?_))) <;> (try (first | (with_reducible refine nC ?_) | refine ⟨fun _ => rfl, ?_⟩))))) | (first | refine Ws.seq ?_ | refine Ws.region ?_ | refine Ws.draw (fun bd hbd => ?_) | refine Ws.cond rfl ?_ | refine Ws.skip ?_ | refine Ws.scope ?_ | refine Ws.block ?_ | refine Ws.exit ?_ | refine Ws.ret ?_)))
    (refine FnEnd.ret (F' := F) (vs := [_]) (by (first | refine ResF.tmp inW ?_ | refine ResF.cell rfl inF inP ?_); exact ResF.nil) inS ⟨?_, rfl⟩)
    rfl
  have hv := Vk.of hchk
  have h7 := hv.n2
  (repeat' (first | (first | refine Wo.nil ?_ | refine Wd.nil ?_ | ((first | refine Wo.cons ?_ | refine Wd.cons ?_); (try refine W1.go rfl rfl ?_); ((first | refine k1 ?_ | refine k2 ?_ | (refine isDst 4 ?_; refine W1.boxA rfl (fun b4 hb4 => ?_)) | (refine isDst 36 ?_; refine W1.lenZ hby.row.cons rfl ?_) | (refine isDst 41 ?_; refine W1.lenZ htr.row.cons rfl ?_) | (refine isDst 46 ?_; refine W1.lenI hgv.cons rfl ?_) | (refine isCall ?_; first | refine W1.pure rfl rfl (f34_t hk.cons hchk) ?_ | refine W1.pure rfl rfl (f34_f hk.cons hchk) ?_ | refine W1.pure rfl rfl f15_ok ?_) | refine W1.auto ?_ | ((first | refine kA ?_ | refine kB ?_ | refine kC ?_ | refine kD ?_ | refine kE ?_ | refine kF ?_ | refine kG ?_); refine ⟨fun _ => ?_, fun _ => ?_⟩) | refine W1.alloc (fun _ _ => ?_) | refine W1.boxA rfl (fun _ _ => ?_) | refine kq (fun _ _ => ?_) | refine kp ?_ | (refine isIaddrs ?_; first | refine W1.iaddrI inI rfl rfl (by omega) (fun _ _ _ _ _ _ => ?_) | refine W1.iaddrR inR rfl rfl (by omega) (fun _ _ _ _ _ _ _ => ?_)) | (refine isBox ?_; refine W1.boxS inW (by rfl) (fun _ _ => ?_)) | (refine isBslice ?_; refine W1.bslice (fill_all inC rfl) (fun _ _ => ?_))) <;> (try (first | (with_reducible refine nC ?_) | refine ⟨fun _ => rfl, ?_⟩))))) | (first | refine Ws.seq ?_ | refine Ws.region ?_ | refine Ws.draw (fun bd hbd => ?_) | refine Ws.cond rfl ?_ | refine Ws.skip ?_ | refine Ws.scope ?_ | refine Ws.block ?_ | refine Ws.exit ?_ | refine Ws.ret ?_)))
  · (refine FnEnd.ret (F' := F) (vs := [_]) (by (first | refine ResF.tmp inW ?_ | refine ResF.cell rfl inF inP ?_); exact ResF.nil) inS ⟨?_, rfl⟩)
    rfl
  · (refine FnEnd.ret (F' := F) (vs := [_]) (by (first | refine ResF.tmp inW ?_ | refine ResF.cell rfl inF inP ?_); exact ResF.nil) inS ⟨?_, rfl⟩)
    rfl
  · (refine FnEnd.ret (F' := F) (vs := [_]) (by (first | refine ResF.tmp inW ?_ | refine ResF.cell rfl inF inP ?_); exact ResF.nil) inS ⟨?_, rfl⟩)
    rfl
  refine Wo.cons (W1.callM rfl rfl ((f26_ok hk.cons).mono fun v F' h => ?_))
  obtain ⟨bov, Fb, rfl, hbo, rfl⟩ := h
  refine Wo.fresh (l := [(1, bv), (2, wv), (3, gv), (4, .ptr (some (b4, 0))), (52, .tup [bov, .int .i64 (bestR k).2.1, .int .i64 (bestR k).2.2])]) ⟨rfl, rfl, rfl, rfl, rfl, trivial⟩ (fun B => ?_)
  have hG1 : ∀ z, z ∈ F → z ∈ (Fb ++ ((b4, ABlk.cells (kl k sv cv) true) :: F)) := fun z hz => List.mem_append_right _ (List.mem_cons_of_mem _ hz)
  have hm1 : (b4, ABlk.cells (kl k sv cv) true) ∈ (Fb ++ ((b4, ABlk.cells (kl k sv cv) true) :: F)) := List.mem_append_right _ (List.mem_cons_self ..)
  (repeat' (first | (first | refine Wo.nil ?_ | refine Wd.nil ?_ | ((first | refine Wo.cons ?_ | refine Wd.cons ?_); (try refine W1.go rfl rfl ?_); ((first | refine k1 ?_ | refine k2 ?_ | (refine isDst 56 ?_; refine W1.loadA rfl hm1 rfl ?_) | refine W1.auto ?_ | ((first | refine kA ?_ | refine kB ?_ | refine kC ?_ | refine kD ?_ | refine kE ?_ | refine kF ?_ | refine kG ?_); refine ⟨fun _ => ?_, fun _ => ?_⟩) | refine W1.alloc (fun _ _ => ?_) | refine W1.boxA rfl (fun _ _ => ?_) | refine kq (fun _ _ => ?_) | refine kp ?_ | (refine isIaddrs ?_; first | refine W1.iaddrI inI rfl rfl (by omega) (fun _ _ _ _ _ _ => ?_) | refine W1.iaddrR inR rfl rfl (by omega) (fun _ _ _ _ _ _ _ => ?_)) | (refine isBox ?_; refine W1.boxS inW (by rfl) (fun _ _ => ?_)) | (refine isBslice ?_; refine W1.bslice (fill_all inC rfl) (fun _ _ => ?_))) <;> (try (first | (with_reducible refine nC ?_) | refine ⟨fun _ => rfl, ?_⟩))))) | (first | refine Ws.seq ?_ | refine Ws.region ?_ | refine Ws.draw (fun bd hbd => ?_) | refine Ws.cond rfl ?_ | refine Ws.skip ?_ | refine Ws.scope ?_ | refine Ws.block ?_ | refine Ws.exit ?_ | refine Ws.ret ?_)))
  refine Wo.cons (W1.callM rfl rfl ((f35_ok (hk.mono hG1) hchk (hby.mono hG1)).mono fun v F' h => ?_))
  obtain ⟨Fp, p, hp, hpl, rfl⟩ := h
  have hpc := hp.cell
  have hgc := hgv.cell
  have hbc := hbo.cell
  refine Wo.fresh (l := [(2, wv), (3, gv), (4, .ptr (some (b4, 0))), (9, bov), (11, .int .i64 (bestR k).2.2), (58, v)]) ⟨rfl, rfl, rfl, rfl, rfl, rfl, trivial⟩ (fun B2 => ?_)
  (repeat' (first | (first | refine Wo.nil ?_ | refine Wd.nil ?_ | ((first | refine Wo.cons ?_ | refine Wd.cons ?_); (try refine W1.go rfl rfl ?_); ((first | refine k1 ?_ | refine k2 ?_ | (refine isDst 61 ?_; refine W1.bslice (fill3 rfl rfl rfl hpc hgc hbc) (fun zb hzb => ?_)) | (refine isDst 63 ?_; refine W1.loadA rfl (List.mem_cons_of_mem _ (List.mem_append_right _ hm1)) rfl ?_) | refine W1.auto ?_ | ((first | refine kA ?_ | refine kB ?_ | refine kC ?_ | refine kD ?_ | refine kE ?_ | refine kF ?_ | refine kG ?_); refine ⟨fun _ => ?_, fun _ => ?_⟩) | refine W1.alloc (fun _ _ => ?_) | refine W1.boxA rfl (fun _ _ => ?_) | refine kq (fun _ _ => ?_) | refine kp ?_ | (refine isIaddrs ?_; first | refine W1.iaddrI inI rfl rfl (by omega) (fun _ _ _ _ _ _ => ?_) | refine W1.iaddrR inR rfl rfl (by omega) (fun _ _ _ _ _ _ _ => ?_)) | (refine isBox ?_; refine W1.boxS inW (by rfl) (fun _ _ => ?_)) | (refine isBslice ?_; refine W1.bslice (fill_all inC rfl) (fun _ _ => ?_))) <;> (try (first | (with_reducible refine nC ?_) | refine ⟨fun _ => rfl, ?_⟩))))) | (first | refine Ws.seq ?_ | refine Ws.region ?_ | refine Ws.draw (fun bd hbd => ?_) | refine Ws.cond rfl ?_ | refine Ws.skip ?_ | refine Ws.scope ?_ | refine Ws.block ?_ | refine Ws.exit ?_ | refine Ws.ret ?_)))
  have hG2 : ∀ z, z ∈ F → z ∈ ((zb, ABlk.cells [v, gv, bov] true) :: (Fp ++ (Fb ++ ((b4, ABlk.cells (kl k sv cv) true) :: F)))) := fun z hz => List.mem_cons_of_mem _ (List.mem_append_right _ (hG1 z hz))
  have hm2 : (b4, ABlk.cells (kl k sv cv) true) ∈ ((zb, ABlk.cells [v, gv, bov] true) :: (Fp ++ (Fb ++ ((b4, ABlk.cells (kl k sv cv) true) :: F)))) := List.mem_cons_of_mem _ (List.mem_append_right _ hm1)
  refine Wo.cons (W1.callM rfl rfl ((f36_ok (hk.mono hG2) hchk (htr.mono hG2)).mono fun v2 F' h => ?_))
  obtain ⟨start, tv, Ft, sales, rfl, ht, hs, rfl⟩ := h
  refine Wo.fresh (l := [(4, .ptr (some (b4, 0))), (9, bov), (11, .int .i64 (bestR k).2.2), (12, .slc (some (zb, 0)) 3 3 true 1), (65, .tup [.int .i64 start, tv])]) ⟨rfl, rfl, rfl, rfl, rfl, trivial⟩ (fun B3 => ?_)
  (repeat' (first | (first | refine Wo.nil ?_ | refine Wd.nil ?_ | ((first | refine Wo.cons ?_ | refine Wd.cons ?_); (try refine W1.go rfl rfl ?_); ((first | refine k1 ?_ | refine k2 ?_ | refine W1.auto ?_ | ((first | refine kA ?_ | refine kB ?_ | refine kC ?_ | refine kD ?_ | refine kE ?_ | refine kF ?_ | refine kG ?_); refine ⟨fun _ => ?_, fun _ => ?_⟩) | refine W1.alloc (fun _ _ => ?_) | refine W1.boxA rfl (fun _ _ => ?_) | refine kq (fun _ _ => ?_) | refine kp ?_ | (refine isIaddrs ?_; first | refine W1.iaddrI inI rfl rfl (by omega) (fun _ _ _ _ _ _ => ?_) | refine W1.iaddrR inR rfl rfl (by omega) (fun _ _ _ _ _ _ _ => ?_)) | (refine isBox ?_; refine W1.boxS inW (by rfl) (fun _ _ => ?_)) | (refine isBslice ?_; refine W1.bslice (fill_all inC rfl) (fun _ _ => ?_))) <;> (try (first | (with_reducible refine nC ?_) | refine ⟨fun _ => rfl, ?_⟩))))) | (first | refine Ws.seq ?_ | refine Ws.region ?_ | refine Ws.draw (fun bd hbd => ?_) | refine Ws.cond rfl ?_ | refine Ws.skip ?_ | refine Ws.scope ?_ | refine Ws.block ?_ | refine Ws.exit ?_ | refine Ws.ret ?_)))
  have hG3 : ∀ z, z ∈ F → z ∈ (Ft ++ ((zb, ABlk.cells [v, gv, bov] true) :: (Fp ++ (Fb ++ ((b4, ABlk.cells (kl k sv cv) true) :: F))))) := fun z hz => List.mem_append_right _ (hG2 z hz)
  have hm3 : (b4, ABlk.cells (kl k sv cv) true) ∈ (Ft ++ ((zb, ABlk.cells [v, gv, bov] true) :: (Fp ++ (Fb ++ ((b4, ABlk.cells (kl k sv cv) true) :: F))))) := List.mem_append_right _ hm2
  refine Ws.fresh (l := (15, .slc none 0 0 true 0) :: (16, .slc none 0 0 true 0) :: (17, .int .i64 0) :: [(4, .ptr (some (b4, 0))), (9, bov), (11, .int .i64 (bestR k).2.2), (12, .slc (some (zb, 0)) 3 3 true 1), (13, .int .i64 start), (14, tv)]) ⟨rfl, rfl, rfl, rfl, rfl, rfl, rfl, rfl, rfl, trivial⟩ (fun B4 => ?_)
  refine (f7_lm (hk.mono hG3) hv hm3).mono ?_
  rintro r E' G ⟨rfl, xv, yv, Fx, Fy, hE', hx, hy, rfl⟩
  refine Ws.fresh hE' (fun B5 => ?_)
  have hU : ∀ z, z ∈ (Ft ++ ((zb, ABlk.cells [v, gv, bov] true) :: (Fp ++ (Fb ++ ((b4, ABlk.cells (kl k sv cv) true) :: F))))) → z ∈ (Fy ++ (Fx ++ (Ft ++ ((zb, ABlk.cells [v, gv, bov] true) :: (Fp ++ (Fb ++ ((b4, ABlk.cells (kl k sv cv) true) :: F))))))) := fun z hz => List.mem_append_right _ (List.mem_append_right _ hz)
  have hm4 := hU _ hm3
  have hk4 : KVal (Fy ++ (Fx ++ (Ft ++ ((zb, ABlk.cells [v, gv, bov] true) :: (Fp ++ (Fb ++ ((b4, ABlk.cells (kl k sv cv) true) :: F))))))) k sv cv := hk.mono fun z hz => hU z (hG3 z hz)
  have hb4' : RowI (Fy ++ (Fx ++ (Ft ++ ((zb, ABlk.cells [v, gv, bov] true) :: (Fp ++ (Fb ++ ((b4, ABlk.cells (kl k sv cv) true) :: F))))))) bov (bestR k).1 := hbo.mono fun z hz => hU z (List.mem_append_right _ (List.mem_cons_of_mem _ (List.mem_append_right _ (List.mem_append_left _ hz))))
  have hz4 : (zb, ABlk.cells [v, gv, bov] true) ∈ (Fy ++ (Fx ++ (Ft ++ ((zb, ABlk.cells [v, gv, bov] true) :: (Fp ++ (Fb ++ ((b4, ABlk.cells (kl k sv cv) true) :: F))))))) := hU _ (List.mem_append_right _ (List.mem_cons_self ..))
  have hp4 : RowI (Fy ++ (Fx ++ (Ft ++ ((zb, ABlk.cells [v, gv, bov] true) :: (Fp ++ (Fb ++ ((b4, ABlk.cells (kl k sv cv) true) :: F))))))) v p := hp.mono fun z hz => hU z (List.mem_append_right _ (List.mem_cons_of_mem _ (List.mem_append_left _ hz)))
  have hs4 : RowI (Fy ++ (Fx ++ (Ft ++ ((zb, ABlk.cells [v, gv, bov] true) :: (Fp ++ (Fb ++ ((b4, ABlk.cells (kl k sv cv) true) :: F))))))) tv sales := hs.mono fun z hz => hU z (List.mem_append_left _ hz)
  have hg4 : RowI (Fy ++ (Fx ++ (Ft ++ ((zb, ABlk.cells [v, gv, bov] true) :: (Fp ++ (Fb ++ ((b4, ABlk.cells (kl k sv cv) true) :: F))))))) gv given := hgv.mono fun z hz => hU z (hG3 z hz)
  have hbl : (bestR k).1.length ≤ 20 := by
    rcases best_iff hchk with ⟨_, h, _⟩ | ⟨h, _⟩
    · rw [h.len]; exact h7
    · rw [h]; exact Nat.zero_le _
  have h21 := f21_at hk4 hchk
  by_cases hb0 : (bestR k).2.2 = 0
  · have hcb : (cpv k (bestR k).1).2 = 0 := by
      rcases best_iff hchk with ⟨_, hg, _, _⟩ | ⟨h, _⟩
      · rw [cpv_good hchk hg]
      · rw [h] at hb0; exact absurd hb0 (by decide)
    have h18 := f18_at hk4 hb4' (by omega) hcb
    (repeat' (first | (first | refine Wo.nil ?_ | refine Wd.nil ?_ | ((first | refine Wo.cons ?_ | refine Wd.cons ?_); (try refine W1.go rfl rfl ?_); ((first | refine k1 ?_ | refine k2 ?_ | refine W1.cA ?_ | (refine isDst 96 ?_; refine W1.loadA rfl hm4 rfl ?_) | (refine isDst 101 ?_; refine W1.loadA rfl hm4 rfl ?_) | refine W1.cO ?_ | (refine isCall ?_; first | refine W1.pure rfl rfl h21 ?_ | refine W1.pure rfl rfl h18 ?_) | refine W1.auto ?_ | ((first | refine kA ?_ | refine kB ?_ | refine kC ?_ | refine kD ?_ | refine kE ?_ | refine kF ?_ | refine kG ?_); refine ⟨fun _ => ?_, fun _ => ?_⟩) | refine W1.alloc (fun _ _ => ?_) | refine W1.boxA rfl (fun _ _ => ?_) | refine kq (fun _ _ => ?_) | refine kp ?_ | (refine isIaddrs ?_; first | refine W1.iaddrI inI rfl rfl (by omega) (fun _ _ _ _ _ _ => ?_) | refine W1.iaddrR inR rfl rfl (by omega) (fun _ _ _ _ _ _ _ => ?_)) | (refine isBox ?_; refine W1.boxS inW (by rfl) (fun _ _ => ?_)) | (refine isBslice ?_; refine W1.bslice (fill_all inC rfl) (fun _ _ => ?_))) <;> (try (first | (with_reducible refine nC ?_) | refine ⟨fun _ => rfl, ?_⟩))))) | (first | refine Ws.seq ?_ | refine Ws.region ?_ | refine Ws.draw (fun bd hbd => ?_) | refine Ws.cond rfl ?_ | refine Ws.skip ?_ | refine Ws.scope ?_ | refine Ws.block ?_ | refine Ws.exit ?_ | refine Ws.ret ?_)))
    refine Ws.fresh (l := (20, .int .i64 0) :: [(4, .ptr (some (b4, 0))), (12, .slc (some (zb, 0)) 3 3 true 1), (13, .int .i64 start), (14, tv), (15, xv), (16, yv)]) ⟨rfl, rfl, rfl, rfl, rfl, rfl, rfl, trivial⟩ (fun B6 => ?_); refine (f7_main hchk ht hk4 hm4 hz4 hp4 hg4 hb4' (by omega) hlg (by omega) hs4 hx hy).mono ?_; rintro r E' G ⟨rfl, hE', rfl⟩; refine Ws.fresh hE' (fun B7 => ?_)
    (repeat' (first | (first | refine Wo.nil ?_ | refine Wd.nil ?_ | ((first | refine Wo.cons ?_ | refine Wd.cons ?_); (try refine W1.go rfl rfl ?_); ((first | refine k1 ?_ | refine k2 ?_ | (refine isCall ?_; refine W1.pure rfl rfl f15_ok ?_) | refine W1.auto ?_ | ((first | refine kA ?_ | refine kB ?_ | refine kC ?_ | refine kD ?_ | refine kE ?_ | refine kF ?_ | refine kG ?_); refine ⟨fun _ => ?_, fun _ => ?_⟩) | refine W1.alloc (fun _ _ => ?_) | refine W1.boxA rfl (fun _ _ => ?_) | refine kq (fun _ _ => ?_) | refine kp ?_ | (refine isIaddrs ?_; first | refine W1.iaddrI inI rfl rfl (by omega) (fun _ _ _ _ _ _ => ?_) | refine W1.iaddrR inR rfl rfl (by omega) (fun _ _ _ _ _ _ _ => ?_)) | (refine isBox ?_; refine W1.boxS inW (by rfl) (fun _ _ => ?_)) | (refine isBslice ?_; refine W1.bslice (fill_all inC rfl) (fun _ _ => ?_))) <;> (try (first | (with_reducible refine nC ?_) | refine ⟨fun _ => rfl, ?_⟩))))) | (first | refine Ws.seq ?_ | refine Ws.region ?_ | refine Ws.draw (fun bd hbd => ?_) | refine Ws.cond rfl ?_ | refine Ws.skip ?_ | refine Ws.scope ?_ | refine Ws.block ?_ | refine Ws.exit ?_ | refine Ws.ret ?_)))
    (refine FnEnd.ret (F' := F) (vs := [_]) (by (first | refine ResF.tmp inW ?_ | refine ResF.cell rfl inF inP ?_); exact ResF.nil) inS ⟨?_, rfl⟩)
    rfl
  · have _ := hb0
    (repeat' (first | (first | refine Wo.nil ?_ | refine Wd.nil ?_ | ((first | refine Wo.cons ?_ | refine Wd.cons ?_); (try refine W1.go rfl rfl ?_); ((first | refine k1 ?_ | refine k2 ?_ | refine W1.cA ?_ | refine W1.auto ?_ | ((first | refine kA ?_ | refine kB ?_ | refine kC ?_ | refine kD ?_ | refine kE ?_ | refine kF ?_ | refine kG ?_); refine ⟨fun _ => ?_, fun _ => ?_⟩) | refine W1.alloc (fun _ _ => ?_) | refine W1.boxA rfl (fun _ _ => ?_) | refine kq (fun _ _ => ?_) | refine kp ?_ | (refine isIaddrs ?_; first | refine W1.iaddrI inI rfl rfl (by omega) (fun _ _ _ _ _ _ => ?_) | refine W1.iaddrR inR rfl rfl (by omega) (fun _ _ _ _ _ _ _ => ?_)) | (refine isBox ?_; refine W1.boxS inW (by rfl) (fun _ _ => ?_)) | (refine isBslice ?_; refine W1.bslice (fill_all inC rfl) (fun _ _ => ?_))) <;> (try (first | (with_reducible refine nC ?_) | refine ⟨fun _ => rfl, ?_⟩))))) | (first | refine Ws.seq ?_ | refine Ws.region ?_ | refine Ws.draw (fun bd hbd => ?_) | refine Ws.cond rfl ?_ | refine Ws.skip ?_ | refine Ws.scope ?_ | refine Ws.block ?_ | refine Ws.exit ?_ | refine Ws.ret ?_)))
    refine Ws.fresh (l := (20, .int .i64 0) :: [(4, .ptr (some (b4, 0))), (12, .slc (some (zb, 0)) 3 3 true 1), (13, .int .i64 start), (14, tv), (15, xv), (16, yv)]) ⟨rfl, rfl, rfl, rfl, rfl, rfl, rfl, trivial⟩ (fun B6 => ?_); refine (f7_main hchk ht hk4 hm4 hz4 hp4 hg4 hb4' (by omega) hlg (by omega) hs4 hx hy).mono ?_; rintro r E' G ⟨rfl, hE', rfl⟩; refine Ws.fresh hE' (fun B7 => ?_)
    (repeat' (first | (first | refine Wo.nil ?_ | refine Wd.nil ?_ | ((first | refine Wo.cons ?_ | refine Wd.cons ?_); (try refine W1.go rfl rfl ?_); ((first | refine k1 ?_ | refine k2 ?_ | (refine isCall ?_; refine W1.pure rfl rfl f15_ok ?_) | refine W1.auto ?_ | ((first | refine kA ?_ | refine kB ?_ | refine kC ?_ | refine kD ?_ | refine kE ?_ | refine kF ?_ | refine kG ?_); refine ⟨fun _ => ?_, fun _ => ?_⟩) | refine W1.alloc (fun _ _ => ?_) | refine W1.boxA rfl (fun _ _ => ?_) | refine kq (fun _ _ => ?_) | refine kp ?_ | (refine isIaddrs ?_; first | refine W1.iaddrI inI rfl rfl (by omega) (fun _ _ _ _ _ _ => ?_) | refine W1.iaddrR inR rfl rfl (by omega) (fun _ _ _ _ _ _ _ => ?_)) | (refine isBox ?_; refine W1.boxS inW (by rfl) (fun _ _ => ?_)) | (refine isBslice ?_; refine W1.bslice (fill_all inC rfl) (fun _ _ => ?_))) <;> (try (first | (with_reducible refine nC ?_) | refine ⟨fun _ => rfl, ?_⟩))))) | (first | refine Ws.seq ?_ | refine Ws.region ?_ | refine Ws.draw (fun bd hbd => ?_) | refine Ws.cond rfl ?_ | refine Ws.skip ?_ | refine Ws.scope ?_ | refine Ws.block ?_ | refine Ws.exit ?_ | refine Ws.ret ?_)))
    (refine FnEnd.ret (F' := F) (vs := [_]) (by (first | refine ResF.tmp inW ?_ | refine ResF.cell rfl inF inP ?_); exact ResF.nil) inS ⟨?_, rfl⟩)
    rfl
end Go.Ax
