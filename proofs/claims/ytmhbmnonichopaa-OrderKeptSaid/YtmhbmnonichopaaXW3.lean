/-
  Contracts: a truth out of numbers.
-/
import Derived.Test.YtmhbmnonichopaaXW1
namespace Go.Ax
set_option maxHeartbeats 8000000
set_option maxRecDepth 6000
set_option linter.unusedSimpArgs false
set_option linter.unusedVariables false
variable {lo : Nat} {F : Hp}
theorem W1.tailIG {tbl : Nat → Option AFn} {bd : Nat} {E : FE} {d : Option Nat} {R : FE → Hp → Cls → Prop} {x i : AO} {kd : IntKind} {G : Hp} {v : AV} {xs : List Int} (hr : RowI G v xs) (hs : Sl 1 v) (hx : xev E x = v) (hi : xev E i = .int kd 1) (hn : 0 < xs.length)
    (k : ∀ v', RowI G v' (xs.drop 1) → R (fput E d v') F .n) : W1 tbl lo bd ⟨d, .slc 1 x (some i) none none, none⟩ E F R := by
  obtain ⟨p, cap, ex, es, rfl, hj⟩ := hr
  obtain ⟨b, o, _, _, rfl, _, _⟩ := hj 0 hn
  obtain ⟨_, _, _, _, _, he, hes⟩ := hs
  cases he
  refine W1.slcTail hx hes hi hn (k _ ⟨_, _, _, _, by rw [List.length_drop], fun j hj' => ?_⟩)
  obtain ⟨b', o', l, own, hp, hm, hl⟩ := hj (j + 1) (by rw [List.length_drop] at hj'; omega)
  cases hp
  refine ⟨_, _, l, own, rfl, hm, ?_⟩
  rw [show o + 1 * 1 + j = o + (j + 1) by omega, hl]
  cases xs <;> simp
theorem getD_snoc {xs : List Int} {z : Int} {j : Nat} (h : j < xs.length) : (xs ++ [z]).getD j 0 = xs.getD j 0 := by simp [List.getD, List.getElem?_append_left h]
theorem getD_last {xs : List Int} {z : Int} {j : Nat} (h : j = xs.length) : (xs ++ [z]).getD j 0 = z := by subst h; simp [List.getD]
/-- all ranges that a truth is in -/
def rngs (k : K) : List (Int × Int) := (k.slo, k.shi) :: k.sales
theorem rngs_ok {k : K} (hv : Vk k) {j : Nat} (hj : j < (rngs k).length) : 0 ≤ ((rngs k).getD j (0, 0)).1 ∧ ((rngs k).getD j (0, 0)).1 ≤ ((rngs k).getD j (0, 0)).2 ∧ ((rngs k).getD j (0, 0)).2 ≤ 100000 := by
  cases j with
  | zero => have h1 := hv.slo; have h2 := hv.start; have h3 := hv.shi; have h4 := hv.cap2; simp only [rngs, List.getD_cons_zero]; omega
  | succ j => simp only [rngs, List.getD_cons_succ]; exact hv.sale j (by simpa [rngs] using hj)
theorem truth_of {k : K} {xs : List Int} (hl : xs.length = (rngs k).length) (h : ∀ j, j < xs.length → ((rngs k).getD j (0, 0)).1 ≤ xs.getD j 0 ∧ xs.getD j 0 ≤ ((rngs k).getD j (0, 0)).2) : Truth k (xs.getD 0 0) (xs.drop 1) := by
  have hl' : xs.length = k.sales.length + 1 := by rw [hl]; simp [rngs]
  have h0 := h 0 (by omega)
  simp only [rngs, List.getD_cons_zero] at h0
  refine ⟨by rw [List.length_drop]; omega, h0.1, h0.2, fun d hd => ?_⟩
  have h1 := h (d + 1) (by omega)
  simp only [rngs, List.getD_cons_succ] at h1
  unfold saleOk
  rw [getD_drop1']
  exact h1
where
  getD_drop1' : ∀ {l : List Int} {d : Nat}, (l.drop 1).getD d 0 = l.getD (d + 1) 0 := by intro l d; cases l <;> simp
/-- a truth comes back -/
def TruthR (k : K) (F : Hp) (v : AV) (F' : Hp) : Prop := ∃ start sv Fo sales, v = .tup [.int .i64 start, sv] ∧ Truth k start sales ∧ RowI Fo sv sales ∧ F' = Fo ++ F
theorem f36_ok {k : K} {sv cv bv : AV} {byl : List Int} (hk : KVal F k sv cv) (hchk : chk k = 0) (hby : NumsV F .u32 4294967295 bv byl) : Fn tblW lo (fnv 36) [.agg (kl k sv cv), bv] F (TruthR k F) := by
  have hv := Vk.of hchk
  have h7 := hv.n2
  have h9 := hv.n1
  have hs0 := hk.s
  refine Fn.func (fn := af36) rfl rfl ?_
  (repeat' (first | (first | refine Wo.nil ?_ | refine Wd.nil ?_ | ((first | refine Wo.cons ?_ | refine Wd.cons ?_); (try refine W1.go rfl rfl ?_); ((first | refine k1 ?_ | refine k2 ?_ | (refine isDst 2 ?_; refine W1.boxA rfl (fun b2 hb2 => ?_)) | (refine isDst 12 ?_; refine W1.bslice (l := [.int .i64 k.slo, .int .i64 k.shi]) (fill_all (catF2 rfl catF0) rfl) (fun b12 hb12 => ?_)) | (refine isDst 15 ?_; refine W1.appRowR rfl (show (b12, ABlk.cells (flat [(k.slo, k.shi)]) true) ∈ _ from List.mem_cons_self ..) rfl inR rfl (by omega) (by simp; omega) (fun b15 hb15 => ?_)) | refine W1.auto ?_ | ((first | refine kA ?_ | refine kB ?_ | refine kC ?_ | refine kD ?_ | refine kE ?_ | refine kF ?_ | refine kG ?_); refine ⟨fun _ => ?_, fun _ => ?_⟩) | refine W1.alloc (fun _ _ => ?_) | refine W1.boxA rfl (fun _ _ => ?_) | refine kq (fun _ _ => ?_) | refine kp ?_ | (refine isIaddrs ?_; first | refine W1.iaddrI inI rfl rfl (by omega) (fun _ _ _ _ _ _ => ?_) | refine W1.iaddrR inR rfl rfl (by omega) (fun _ _ _ _ _ _ _ => ?_)) | (refine isBox ?_; refine W1.boxS inW (by rfl) (fun _ _ => ?_)) | (refine isBslice ?_; refine W1.bslice (fill_all inC rfl) (fun _ _ => ?_))) <;> (try refine ⟨fun _ => rfl, ?_⟩)))) | (first | refine Ws.seq ?_ | refine Ws.region ?_ | refine Ws.draw (fun bd hbd => ?_) | refine Ws.cond rfl ?_ | refine Ws.skip ?_ | refine Ws.scope ?_ | refine Ws.block ?_ | refine Ws.exit ?_ | refine Ws.ret ?_)))
  have hlr : (rngs k).length = k.sales.length + 1 := by simp [rngs]
  refine (fun (w : Ws _ _ _ _ _ ((b15, ABlk.cells (flat (rngs k)) true) :: (b12, ABlk.cells [AV.int .i64 k.slo, AV.int .i64 k.shi] true) :: (b2, ABlk.cells (kl k sv cv) true) :: F) _) => w) ?_
  refine Ws.fresh (l := [(1, bv), (6, .slc (some (b15, 0)) (rngs k).length (rngs k).length false 2), (7, .slc none 0 0 true 0), (8, .int .i64 0)]) ⟨rfl, rfl, rfl, rfl, trivial⟩ (fun B0 => ?_)
  refine Ws.loopD 144115188075791232 rfl [(1, _), (6, _)] ⟨inW, inW, trivial⟩ [1, 6] rfl rfl (X := Nat × AV × Hp × List Int) (fun p => [(7, p.2.1), (8, .int .i64 (p.1 : Nat))]) (fun p => p.2.2.1 ++ ((b15, ABlk.cells (flat (rngs k)) true) :: (b12, ABlk.cells [AV.int .i64 k.slo, AV.int .i64 k.shi] true) :: (b2, ABlk.cells (kl k sv cv) true) :: F))
    (fun p => p.1 ≤ (rngs k).length ∧ OwnI lo false p.2.1 p.2.2.1 p.2.2.2 ∧ p.2.2.2.length = p.1 ∧ ∀ j, j < p.1 → ((rngs k).getD j (0, 0)).1 ≤ p.2.2.2.getD j 0 ∧ p.2.2.2.getD j 0 ≤ ((rngs k).getD j (0, 0)).2) (fun p => (rngs k).length - p.1) (0, .slc none 0 0 true 0, [], [])
    ⟨rfl, rfl, trivial⟩ (List.Sublist.refl _) ⟨Nat.zero_le _, .nil, rfl, fun j hj => absurd hj (Nat.not_lt_zero j)⟩ ?_
  rintro ⟨i, av, Fp, xs⟩ B ⟨hi, hown, hxl, hxs⟩
  simp only at hi hown hxl hxs ⊢
  have hbr : RowZ (nums .u32) 1 (Fp ++ ((b15, ABlk.cells (flat (rngs k)) true) :: (b12, ABlk.cells [AV.int .i64 k.slo, AV.int .i64 k.shi] true) :: (b2, ABlk.cells (kl k sv cv) true) :: F)) bv byl := hby.row.mono fun z hz => List.mem_append_right _ (List.mem_cons_of_mem _ (List.mem_cons_of_mem _ (List.mem_cons_of_mem _ hz)))
  have hrr : RowR (Fp ++ ((b15, ABlk.cells (flat (rngs k)) true) :: (b12, ABlk.cells [AV.int .i64 k.slo, AV.int .i64 k.shi] true) :: (b2, ABlk.cells (kl k sv cv) true) :: F)) (.slc (some (b15, 0)) (rngs k).length (rngs k).length false 2) (rngs k) := (OwnR.row (lo := 0) (b := b15) (rs := rngs k) (Nat.zero_le _)).rowR fun z hz => List.mem_append_right _ (by rw [List.mem_singleton.1 hz]; exact List.mem_cons_self ..)
  by_cases hil : i < (rngs k).length
  · have hri := rngs_ok hv hil
    (repeat' (first | (first | refine Wo.nil ?_ | refine Wd.nil ?_ | ((first | refine Wo.cons ?_ | refine Wd.cons ?_); (try refine W1.go rfl rfl ?_); ((first | refine k1 ?_ | refine k2 ?_ | (refine isDst 28 ?_; refine W1.lenZ hbr rfl ?_) | (refine isDst 34 ?_; refine W1.lenZ hbr rfl ?_) | (refine isDst 24 ?_; refine W1.iaddrR hrr rfl rfl hil (fun _ _ _ _ _ _ _ => ?_)) | (refine isDst 41 ?_; refine W1.iaddrR hrr rfl rfl hil (fun _ _ _ _ _ _ _ => ?_)) | (refine isDst 46 ?_; refine W1.iaddrR hrr rfl rfl hil (fun _ _ _ _ _ _ _ => ?_)) | (refine isDst 36 ?_; refine W1.iaddrZ (i % byl.length) hbr rfl rfl mod_nat (Nat.mod_lt _ (by omega)) (fun _ _ _ _ _ _ _ => ?_)) | (refine isDst 37 ?_; refine W1.load1 rfl inF (seg_get0 (by assumption) rfl) ?_) | (refine isDst 56 ?_; refine W1.appI (F1 := [_]) rfl hown rfl rfl (List.mem_cons_self ..) (by omega) (fun ov' Fo' ho' => ?_)) | (refine isBinLss ?_; refine W1.lssT rfl rfl (by omega) ?_) | (refine isBinRem ?_; refine W1.remN rfl rfl (by omega) (by first | omega | exact (hby.nn _).1) (fun _ _ => ?_)) | (refine isConv ?_; refine W1.convI rfl (by have := hby.nn (i % byl.length); omega) ?_) | refine W1.auto ?_ | ((first | refine kA ?_ | refine kB ?_ | refine kC ?_ | refine kD ?_ | refine kE ?_ | refine kF ?_ | refine kG ?_); refine ⟨fun _ => ?_, fun _ => ?_⟩) | refine W1.alloc (fun _ _ => ?_) | refine W1.boxA rfl (fun _ _ => ?_) | refine kq (fun _ _ => ?_) | refine kp ?_ | (refine isIaddrs ?_; first | refine W1.iaddrI inI rfl rfl (by omega) (fun _ _ _ _ _ _ => ?_) | refine W1.iaddrR inR rfl rfl (by omega) (fun _ _ _ _ _ _ _ => ?_)) | (refine isBox ?_; refine W1.boxS inW (by rfl) (fun _ _ => ?_)) | (refine isBslice ?_; refine W1.bslice (fill_all inC rfl) (fun _ _ => ?_))) <;> (try refine ⟨fun _ => rfl, ?_⟩)))) | (first | refine Ws.seq ?_ | refine Ws.region ?_ | refine Ws.draw (fun bd hbd => ?_) | refine Ws.cond rfl ?_ | refine Ws.skip ?_ | refine Ws.scope ?_ | refine Ws.block ?_ | refine Ws.exit ?_ | refine Ws.ret ?_)))
    all_goals (
      refine ⟨(i + 1, ov', Fo', _), ⟨rfl, rfl, trivial⟩, List.Sublist.append (List.Sublist.refl _) (List.Sublist.cons _ (List.Sublist.refl _)), ⟨hil, ho', by simp [hxl], fun j hj => ?_⟩, by show _ - (i + 1) < _ - i; omega⟩
      rcases Nat.lt_succ_iff_lt_or_eq.1 hj with hj | rfl
      · rw [getD_snoc (by omega)]; exact hxs j hj
      · rw [getD_last hxl.symm]; omega)
  · have hri : i = (rngs k).length := by omega
    have hown' : RowI (Fp ++ ((b15, ABlk.cells (flat (rngs k)) true) :: (b12, ABlk.cells [AV.int .i64 k.slo, AV.int .i64 k.shi] true) :: (b2, ABlk.cells (kl k sv cv) true) :: F)) av xs := hown.rowI (List.subset_append_left _ _)
    have hownp : RowI Fp av xs := hown.rowI (List.Subset.refl _)
    have hx0 : 0 < xs.length := by omega
    (repeat' (first | (first | refine Wo.nil ?_ | refine Wd.nil ?_ | ((first | refine Wo.cons ?_ | refine Wd.cons ?_); (try refine W1.go rfl rfl ?_); ((first | refine k1 ?_ | refine k2 ?_ | (refine isDst 58 ?_; refine W1.iaddrIz 0 hown' rfl rfl rfl hx0 (fun _ _ _ _ _ _ => ?_)) | refine W1.tailIG hownp hown.sl rfl rfl hx0 (fun tv htv => ?_) | (refine isBinLss ?_; refine W1.lssF rfl rfl (by omega) ?_) | refine W1.auto ?_ | ((first | refine kA ?_ | refine kB ?_ | refine kC ?_ | refine kD ?_ | refine kE ?_ | refine kF ?_ | refine kG ?_); refine ⟨fun _ => ?_, fun _ => ?_⟩) | refine W1.alloc (fun _ _ => ?_) | refine W1.boxA rfl (fun _ _ => ?_) | refine kq (fun _ _ => ?_) | refine kp ?_ | (refine isIaddrs ?_; first | refine W1.iaddrI inI rfl rfl (by omega) (fun _ _ _ _ _ _ => ?_) | refine W1.iaddrR inR rfl rfl (by omega) (fun _ _ _ _ _ _ _ => ?_)) | (refine isBox ?_; refine W1.boxS inW (by rfl) (fun _ _ => ?_)) | (refine isBslice ?_; refine W1.bslice (fill_all inC rfl) (fun _ _ => ?_))) <;> (try refine ⟨fun _ => rfl, ?_⟩)))) | (first | refine Ws.seq ?_ | refine Ws.region ?_ | refine Ws.draw (fun bd hbd => ?_) | refine Ws.cond rfl ?_ | refine Ws.skip ?_ | refine Ws.scope ?_ | refine Ws.block ?_ | refine Ws.exit ?_ | refine Ws.ret ?_)))
    refine FnEnd.ret (F0 := F) (Q := TruthR k F) (F' := Fp ++ F) (vs := [_, _]) (.tmp inW (.tmp inW .nil)) ?_ ⟨_, tv, Fp, xs.drop 1, rfl, truth_of (by omega) (fun j hj => hxs j (by omega)), htv, rfl⟩
    exact List.Sublist.append (List.Sublist.refl _) (.cons _ (.cons _ (.cons _ (List.Sublist.refl _))))
end Go.Ax
