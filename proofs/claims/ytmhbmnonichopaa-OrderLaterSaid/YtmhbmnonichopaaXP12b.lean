/-
  The law OrderLater: in each run the machine's answer is true (its function).
-/
import Derived.Test.YtmhbmnonichopaaXP12
namespace Go.Ax
set_option maxHeartbeats 8000000
set_option maxRecDepth 2000
set_option linter.unusedSimpArgs false
set_option linter.unusedVariables false
variable {lo : Nat} {F : Hp}
theorem W1.tailIG {tbl : Nat → Option AFn} {bd : Nat} {E : FE} {d : Option Nat} {R : FE → Hp → Cls → Prop} {x i : AO} {kd : IntKind} {G : Hp} {v : AV} {xs : List Int} (hr : RowI G v xs) (hs : Sl 1 v) (hx : xev E x = v) (hi : xev E i = .int kd 1) (hn : 0 < xs.length)
    (k : ∀ v', RowI G v' (xs.drop 1) → R (fput E d v') F .n) : W1 tbl lo bd ⟨d, .slc 1 x (some i) none none, none⟩ E F R := by
  obtain ⟨p, cap, ex, es, rfl, hj⟩ := hr
  obtain ⟨b, o, _, _, rfl, _, _⟩ := hj 0 hn
  obtain ⟨_, _, _, _, _, he, hes⟩ := hs
  cases he
  refine W1.slcTail hx hes hi hn (k _ ⟨_, _, _, _, by rw [List.length_drop], fun j hj' => ?_⟩)
  obtain ⟨b', o', l, own, hp, hm, hl⟩ := hj (j + 1) (by rw [List.length_drop] at hj'; omega)
  cases hp
  refine ⟨_, _, l, own, rfl, hm, ?_⟩
  rw [show o + 1 * 1 + j = o + (j + 1) by omega, hl]
  cases xs <;> simp
theorem W1.tailRG {tbl : Nat → Option AFn} {bd : Nat} {E : FE} {d : Option Nat} {R : FE → Hp → Cls → Prop} {x i : AO} {kd : IntKind} {G : Hp} {v : AV} {xs : List (Int × Int)} (hr : RowR G v xs) (hs : Sl 2 v) (hx : xev E x = v) (hi : xev E i = .int kd 1) (hn : 0 < xs.length)
    (k : ∀ v', RowR G v' (xs.drop 1) → R (fput E d v') F .n) : W1 tbl lo bd ⟨d, .slc 2 x (some i) none none, none⟩ E F R := by
  obtain ⟨p, cap, ex, es, rfl, hj⟩ := hr
  obtain ⟨b, o, _, _, rfl, _, _⟩ := hj 0 hn
  obtain ⟨_, _, _, _, _, he, hes⟩ := hs
  cases he
  refine W1.slcTail hx hes hi hn (k _ ⟨_, _, _, _, by rw [List.length_drop], fun j hj' => ?_⟩)
  obtain ⟨b', o', l, own, hp, hm, h1, h2⟩ := hj (j + 1) (by rw [List.length_drop] at hj'; omega)
  cases hp
  have e : (xs.drop 1).getD j (0, 0) = xs.getD (j + 1) (0, 0) := by cases xs <;> simp
  rw [e]
  exact ⟨_, _, l, own, rfl, hm, by rw [show o + 1 * 2 + j * 2 = o + (j + 1) * 2 by omega]; exact h1, by rw [show o + 1 * 2 + j * 2 + 1 = o + (j + 1) * 2 + 1 by omega]; exact h2⟩
attribute [local irreducible] cpv later
theorem f12_ok {k : K} {sv cv bv gv : AV} {byl given : List Int} (hk : KVal F k sv cv) (hss : Sl 2 sv) (hcs : Sl 1 cv) (hby : NumsV F .u8 255 bv byl) (hgv : RowI F gv given) (hgs : Sl 1 gv) (hlg : given.length ≤ 9223372036854775807) : Pure tblW (fnv 12) [.agg (kl k sv cv), bv, gv] F (.bool true) := by
  intro lo
  have hlb := hby.len
  have hls := hk.ls
  refine Fn.func (fn := af12) rfl rfl ?_
  by_cases hchk : chk k = 0
  rotate_left
  · (repeat' (first | (first | refine Wo.nil ?_ | refine Wd.nil ?_ | ((first | refine Wo.cons ?_ | refine Wd.cons ?_); (try refine W1.go rfl rfl ?_); ((first | refine W1.skip rfl rfl ?_ | refine W1.skip2 rfl ?_ | (refine isDst 7 ?_; refine W1.alloc (fun b7 hb7 => ?_)) | (refine isDst 3 ?_; refine W1.boxA rfl (fun b0 hb0 => ?_)) | (refine isDst 60 ?_; refine W1.loadO rfl inF inE ?_) | (refine isTo 62 ?_; refine W1.storeO rfl (RowR.cell hs2) rfl inF inL inU inN (by omega) ?_) | refine W1.tailRG hk.s hss rfl rfl (by omega) (fun sv2 hs2 => ?_) | refine W1.tailIG hk.c hcs rfl rfl (by omega) (fun cv2 hc2 => ?_) | (refine isStore ?_; refine W1.storeN rfl (RowI.cell hc2) rfl inF inL inU inN (by omega) ?_) | (refine isIaddrs ?_; refine W1.iaddrRz (j := 0) hk.s.cons.cons rfl rfl rfl hv.n1 (fun _ _ _ _ _ _ _ => ?_)) | (refine isCall ?_; first | refine W1.pure rfl rfl (f34_t hk.cons hchk) ?_ | refine W1.pure rfl rfl (f34_f hk.cons hchk) ?_ | refine W1.pure rfl rfl f15_ok ?_ | refine W1.pure rfl rfl f40_ok ?_) | (refine isLen ?_; first | refine W1.lenZ hby.row.cons rfl ?_ | refine W1.lenI hgv.cons rfl ?_ | refine W1.lenR hk.s.cons rfl ?_) | refine W1.auto ?_ | refine W1.lss rfl rfl (fun _ => ?_) (fun _ => ?_) | refine W1.gtr rfl rfl (fun _ => ?_) (fun _ => ?_) | refine W1.leq rfl rfl (fun _ => ?_) (fun _ => ?_) | refine W1.geq rfl rfl (fun _ => ?_) (fun _ => ?_) | refine W1.eql rfl rfl (fun _ => ?_) (fun _ => ?_) | refine W1.neq rfl rfl (fun _ => ?_) (fun _ => ?_) | refine W1.neq2 rfl rfl (fun _ => ?_) (fun _ => ?_) | refine W1.alloc (fun _ _ => ?_) | refine W1.boxA rfl (fun _ _ => ?_) | (refine isBinQuo ?_; first | refine W1.quoN rfl rfl (by omega) (by omega) (fun _ _ => ?_) | refine W1.quo rfl rfl (by omega) (by omega) ?_) | (refine isIaddrs ?_; first | refine W1.iaddrI inI rfl rfl (by omega) (fun _ _ _ _ _ _ => ?_) | refine W1.iaddrR inR rfl rfl (by omega) (fun _ _ _ _ _ _ _ => ?_)) | (refine isBox ?_; refine W1.boxS inW (by rfl) (fun _ _ => ?_)) | (refine isBslice ?_; refine W1.bslice (fill_all inC rfl) (fun _ _ => ?_))) <;> (try (first | refine ⟨fun _ => rfl, ?_⟩ | refine ⟨inO, ?_⟩))))) | (first | refine Ws.seq ?_ | refine Ws.region ?_ | refine Ws.draw (fun bd hbd => ?_) | refine Ws.cond rfl ?_ | refine Ws.skip ?_ | refine Ws.scope ?_ | refine Ws.block ?_ | refine Ws.exit ?_ | refine Ws.ret ?_)))
    (refine FnEnd.ret (F' := F) (vs := [_]) (by (first | refine ResF.tmp inW ?_ | refine ResF.cell rfl inF inP ?_); exact ResF.nil) inS ⟨?_, rfl⟩)
    rfl
  · have hv := Vk.of hchk
    have h7 := hv.n2
    have h8 := hv.n3
    have c1 := hv.cap1; have c2 := hv.cap2; have c7 := hv.start; have c8 := hv.shi; have c9 := hv.slo; have c10 := hv.sale 0 hv.n1
    (repeat' (first | (first | refine Wo.nil ?_ | refine Wd.nil ?_ | ((first | refine Wo.cons ?_ | refine Wd.cons ?_); (try refine W1.go rfl rfl ?_); ((first | refine W1.skip rfl rfl ?_ | refine W1.skip2 rfl ?_ | (refine isDst 7 ?_; refine W1.alloc (fun b7 hb7 => ?_)) | (refine isDst 3 ?_; refine W1.boxA rfl (fun b0 hb0 => ?_)) | (refine isDst 60 ?_; refine W1.loadO rfl inF inE ?_) | (refine isTo 62 ?_; refine W1.storeO rfl (RowR.cell hs2) rfl inF inL inU inN (by omega) ?_) | refine W1.tailRG hk.s hss rfl rfl (by omega) (fun sv2 hs2 => ?_) | refine W1.tailIG hk.c hcs rfl rfl (by omega) (fun cv2 hc2 => ?_) | (refine isStore ?_; refine W1.storeN rfl (RowI.cell hc2) rfl inF inL inU inN (by omega) ?_) | (refine isIaddrs ?_; refine W1.iaddrRz (j := 0) hk.s.cons.cons rfl rfl rfl hv.n1 (fun _ _ _ _ _ _ _ => ?_)) | (refine isCall ?_; first | refine W1.pure rfl rfl (f34_t hk.cons hchk) ?_ | refine W1.pure rfl rfl (f34_f hk.cons hchk) ?_ | refine W1.pure rfl rfl f15_ok ?_ | refine W1.pure rfl rfl f40_ok ?_) | (refine isLen ?_; first | refine W1.lenZ hby.row.cons rfl ?_ | refine W1.lenI hgv.cons rfl ?_ | refine W1.lenR hk.s.cons rfl ?_) | refine W1.auto ?_ | refine W1.lss rfl rfl (fun _ => ?_) (fun _ => ?_) | refine W1.gtr rfl rfl (fun _ => ?_) (fun _ => ?_) | refine W1.leq rfl rfl (fun _ => ?_) (fun _ => ?_) | refine W1.geq rfl rfl (fun _ => ?_) (fun _ => ?_) | refine W1.eql rfl rfl (fun _ => ?_) (fun _ => ?_) | refine W1.neq rfl rfl (fun _ => ?_) (fun _ => ?_) | refine W1.neq2 rfl rfl (fun _ => ?_) (fun _ => ?_) | refine W1.alloc (fun _ _ => ?_) | refine W1.boxA rfl (fun _ _ => ?_) | (refine isBinQuo ?_; first | refine W1.quoN rfl rfl (by omega) (by omega) (fun _ _ => ?_) | refine W1.quo rfl rfl (by omega) (by omega) ?_) | (refine isIaddrs ?_; first | refine W1.iaddrI inI rfl rfl (by omega) (fun _ _ _ _ _ _ => ?_) | refine W1.iaddrR inR rfl rfl (by omega) (fun _ _ _ _ _ _ _ => ?_)) | (refine isBox ?_; refine W1.boxS inW (by rfl) (fun _ _ => ?_)) | (refine isBslice ?_; refine W1.bslice (fill_all inC rfl) (fun _ _ => ?_))) <;> (try (first | refine ⟨fun _ => rfl, ?_⟩ | refine ⟨inO, ?_⟩))))) | (first | refine Ws.seq ?_ | refine Ws.region ?_ | refine Ws.draw (fun bd hbd => ?_) | refine Ws.cond rfl ?_ | refine Ws.skip ?_ | refine Ws.scope ?_ | refine Ws.block ?_ | refine Ws.exit ?_ | refine Ws.ret ?_)))
    · (refine FnEnd.ret (F' := F) (vs := [_]) (by (first | refine ResF.tmp inW ?_ | refine ResF.cell rfl inF inP ?_); exact ResF.nil) inS ⟨?_, rfl⟩)
      rfl
    · (refine FnEnd.ret (F' := F) (vs := [_]) (by (first | refine ResF.tmp inW ?_ | refine ResF.cell rfl inF inP ?_); exact ResF.nil) inS ⟨?_, rfl⟩)
      rfl
    · (refine FnEnd.ret (F' := F) (vs := [_]) (by (first | refine ResF.tmp inW ?_ | refine ResF.cell rfl inF inP ?_); exact ResF.nil) inS ⟨?_, rfl⟩)
      rfl
    refine Wo.fresh (l := [(1, bv), (2, gv), (3, .ptr (some (b0, 0))), (7, .ptr (some (b7, 0))), (64, .agg (kl k sv cv)), (65, bv)]) ⟨rfl, rfl, rfl, rfl, rfl, rfl, trivial⟩ (fun B => ?_)
    have hk1 := later_val hk hs2 hc2
    rw [← later_kl]
    have hby2 : NumsV ((b7, .cells (kl (later k) sv2 cv2) true) :: (b0, .cells (kl k sv cv) true) :: F) .u8 255 bv byl := hby.mono (fun _ hx => List.mem_cons_of_mem _ (List.mem_cons_of_mem _ hx))
    have hkk : KVal ((b7, .cells (kl (later k) sv2 cv2) true) :: (b0, .cells (kl k sv cv) true) :: F) k sv cv := hk.cons.cons
    refine Wo.cons (W1.callM rfl rfl ((f35_okS hkk hchk hby2).mono fun v F' h => ?_))
    obtain ⟨⟨Fp, p, hp, hpl, rfl⟩, hps⟩ := h
    have hpc := hp.cell
    have hgc := hgv.cell
    (repeat' (first | (first | refine Wo.nil ?_ | refine Wd.nil ?_ | ((first | refine Wo.cons ?_ | refine Wd.cons ?_); (try refine W1.go rfl rfl ?_); ((first | refine W1.skip rfl rfl ?_ | refine W1.skip2 rfl ?_ | (refine isBslice ?_; refine W1.bslice (fill2 rfl rfl hpc hgc) (fun lb hlb' => ?_)) | (refine isCall ?_; refine W1.pure rfl rfl f15_ok ?_) | refine W1.auto ?_ | refine W1.lss rfl rfl (fun _ => ?_) (fun _ => ?_) | refine W1.gtr rfl rfl (fun _ => ?_) (fun _ => ?_) | refine W1.leq rfl rfl (fun _ => ?_) (fun _ => ?_) | refine W1.geq rfl rfl (fun _ => ?_) (fun _ => ?_) | refine W1.eql rfl rfl (fun _ => ?_) (fun _ => ?_) | refine W1.neq rfl rfl (fun _ => ?_) (fun _ => ?_) | refine W1.neq2 rfl rfl (fun _ => ?_) (fun _ => ?_) | refine W1.alloc (fun _ _ => ?_) | refine W1.boxA rfl (fun _ _ => ?_) | (refine isBinQuo ?_; first | refine W1.quoN rfl rfl (by omega) (by omega) (fun _ _ => ?_) | refine W1.quo rfl rfl (by omega) (by omega) ?_) | (refine isIaddrs ?_; first | refine W1.iaddrI inI rfl rfl (by omega) (fun _ _ _ _ _ _ => ?_) | refine W1.iaddrR inR rfl rfl (by omega) (fun _ _ _ _ _ _ _ => ?_)) | (refine isBox ?_; refine W1.boxS inW (by rfl) (fun _ _ => ?_)) | (refine isBslice ?_; refine W1.bslice (fill_all inC rfl) (fun _ _ => ?_))) <;> (try (first | refine ⟨fun _ => rfl, ?_⟩ | refine ⟨inO, ?_⟩))))) | (first | refine Ws.seq ?_ | refine Ws.region ?_ | refine Ws.draw (fun bd hbd => ?_) | refine Ws.cond rfl ?_ | refine Ws.skip ?_ | refine Ws.scope ?_ | refine Ws.block ?_ | refine Ws.exit ?_ | refine Ws.ret ?_)))
    have hH : ∀ z, z ∈ F → z ∈ Fp ++ ((b7, .cells (kl (later k) sv2 cv2) true) :: (b0, .cells (kl k sv cv) true) :: F) := fun z hz => List.mem_append_right _ (List.mem_cons_of_mem _ (List.mem_cons_of_mem _ hz))
    refine Ws.fresh (l := (9, .int .i64 0) :: [(3, .ptr (some (b0, 0))), (7, .ptr (some (b7, 0))), (8, .slc (some (lb, 0)) 2 2 true 1)]) ⟨rfl, rfl, rfl, rfl, trivial⟩ (fun B2 => ?_)
    refine (f12_plans (hk.mono hH) (hk1.mono hH) (List.mem_append_right _ (List.mem_cons_of_mem _ (List.mem_cons_self ..))) (List.mem_append_right _ (List.mem_cons_self ..)) (hp.mono (List.subset_append_left _ _)) (hgv.mono hH) hps hgs (by omega) hlg hchk (by omega)).mono ?_
    rintro r E' G ⟨rfl, hE', rfl⟩
    refine Ws.fresh hE' (fun B3 => ?_)
    (repeat' (first | (first | refine Wo.nil ?_ | refine Wd.nil ?_ | ((first | refine Wo.cons ?_ | refine Wd.cons ?_); (try refine W1.go rfl rfl ?_); ((first | refine W1.skip rfl rfl ?_ | refine W1.skip2 rfl ?_ | (refine isBslice ?_; refine W1.bslice (fill2 rfl rfl hpc hgc) (fun lb hlb' => ?_)) | (refine isCall ?_; refine W1.pure rfl rfl f15_ok ?_) | refine W1.auto ?_ | refine W1.lss rfl rfl (fun _ => ?_) (fun _ => ?_) | refine W1.gtr rfl rfl (fun _ => ?_) (fun _ => ?_) | refine W1.leq rfl rfl (fun _ => ?_) (fun _ => ?_) | refine W1.geq rfl rfl (fun _ => ?_) (fun _ => ?_) | refine W1.eql rfl rfl (fun _ => ?_) (fun _ => ?_) | refine W1.neq rfl rfl (fun _ => ?_) (fun _ => ?_) | refine W1.neq2 rfl rfl (fun _ => ?_) (fun _ => ?_) | refine W1.alloc (fun _ _ => ?_) | refine W1.boxA rfl (fun _ _ => ?_) | (refine isBinQuo ?_; first | refine W1.quoN rfl rfl (by omega) (by omega) (fun _ _ => ?_) | refine W1.quo rfl rfl (by omega) (by omega) ?_) | (refine isIaddrs ?_; first | refine W1.iaddrI inI rfl rfl (by omega) (fun _ _ _ _ _ _ => ?_) | refine W1.iaddrR inR rfl rfl (by omega) (fun _ _ _ _ _ _ _ => ?_)) | (refine isBox ?_; refine W1.boxS inW (by rfl) (fun _ _ => ?_)) | (refine isBslice ?_; refine W1.bslice (fill_all inC rfl) (fun _ _ => ?_))) <;> (try (first | refine ⟨fun _ => rfl, ?_⟩ | refine ⟨inO, ?_⟩))))) | (first | refine Ws.seq ?_ | refine Ws.region ?_ | refine Ws.draw (fun bd hbd => ?_) | refine Ws.cond rfl ?_ | refine Ws.skip ?_ | refine Ws.scope ?_ | refine Ws.block ?_ | refine Ws.exit ?_ | refine Ws.ret ?_)))
    (refine FnEnd.ret (F' := F) (vs := [_]) (by (first | refine ResF.tmp inW ?_ | refine ResF.cell rfl inF inP ?_); exact ResF.nil) inS ⟨?_, rfl⟩)
    rfl
end Go.Ax
