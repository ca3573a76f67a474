/-
  Contracts: the laws' helpers: valid kinds; a plan out of numbers.
-/
import Derived.Test.YtmhbmnonichopaaXO9
import Derived.Test.YtmhbmnonichopaaXMX
namespace Go.Ax
set_option maxHeartbeats 4000000
set_option maxRecDepth 20000
set_option linter.unusedSimpArgs false
set_option linter.unusedVariables false
variable {lo : Nat} {F : Hp}

theorem fine_small {k : K} (h : chk k = 0) : ¬ (30 < k.sales.length ∨ 30 < k.costs.length) := by
  have hv := Vk.of h
  have h1 := hv.n2
  have h2 := hv.n3
  omega
theorem f34_ok {k : K} {sv cv : AV} (h : KVal F k sv cv) : Pure tblW (fnv 34) [.agg (kl k sv cv)] F (.bool (decide (chk k = 0))) := by
  intro lo
  have hs := @fine_small k
  refine Fn.func (fn := af34) rfl rfl ?_
  (repeat' (first | (first | refine Wo.nil ?_ | refine Wd.nil ?_ | ((first | refine Wo.cons ?_ | refine Wd.cons ?_); (try refine W1.go rfl rfl ?_); ((first | refine k1 ?_ | refine k2 ?_ | (refine isCall ?_; first | refine W1.pureB rfl rfl (f14_ok (by repeat (first | assumption | apply KVal.cons | apply KVal.app))) (fun _ => ?_) (fun _ => ?_) | refine W1.pure rfl rfl (f21_ok (by repeat (first | assumption | apply KVal.cons | apply KVal.app))) ?_) | refine W1.auto ?_ | ((first | refine kA ?_ | refine kB ?_ | refine kC ?_ | refine kD ?_ | refine kE ?_ | refine kF ?_ | refine kG ?_); refine ⟨fun _ => ?_, fun _ => ?_⟩) | refine W1.alloc (fun _ _ => ?_) | refine W1.boxA rfl (fun _ _ => ?_) | refine kq (fun _ _ => ?_) | refine kp ?_ | (refine isIaddrs ?_; first | refine W1.iaddrI inI rfl rfl (by omega) (fun _ _ _ _ _ _ => ?_) | refine W1.iaddrR inR rfl rfl (by omega) (fun _ _ _ _ _ _ _ => ?_)) | (refine isBox ?_; refine W1.boxS inW (by rfl) (fun _ _ => ?_)) | (refine isBslice ?_; refine W1.bslice (fill_all inC rfl) (fun _ _ => ?_))) <;> (try refine ⟨fun _ => rfl, ?_⟩)))) | (first | refine Ws.seq ?_ | refine Ws.region ?_ | refine Ws.draw (fun bd hbd => ?_) | refine Ws.cond rfl ?_ | refine Ws.skip ?_ | refine Ws.scope ?_ | refine Ws.block ?_ | refine Ws.exit ?_ | refine Ws.ret ?_)))
  · (refine FnEnd.ret (F' := F) (vs := [_]) (by (first | refine ResF.tmp inW ?_ | refine ResF.cell rfl inF inP ?_); exact ResF.nil) inS ⟨?_, rfl⟩)
    show AV.bool false = AV.bool _
    have hb := of_decide_eq_true (by assumption)
    rw [decide_eq_false fun h => hs h hb]
  · (refine FnEnd.ret (F' := F) (vs := [_]) (by (first | refine ResF.tmp inW ?_ | refine ResF.cell rfl inF inP ?_); exact ResF.nil) inS ⟨?_, rfl⟩)
    show AV.bool true = AV.bool _
    rw [decide_eq_true (by assumption)]
  · (refine FnEnd.ret (F' := F) (vs := [_]) (by (first | refine ResF.tmp inW ?_ | refine ResF.cell rfl inF inP ?_); exact ResF.nil) inS ⟨?_, rfl⟩)
    show AV.bool false = AV.bool _
    rw [decide_eq_false (by assumption)]
/-- numbers of a kind in a row -/
abbrev nums (kd : IntKind) (n : Int) : List AV := [.int kd n]
structure NumsV (F : Hp) (kd : IntKind) (u : Int) (v : AV) (xs : List Int) : Prop where
  row : RowZ (nums kd) 1 F v xs
  len : xs.length ≤ 9223372036854775807
  nn : ∀ j, 0 ≤ xs.getD j default ∧ xs.getD j default ≤ u
theorem NumsV.mono {F F' : Hp} {kd : IntKind} {u : Int} {v : AV} {xs : List Int} (h : NumsV F kd u v xs) (hs : F ⊆ F') : NumsV F' kd u v xs := ⟨h.row.mono hs, h.len, h.nn⟩
theorem mod_nat {d n : Nat} : ((d : Int) % (n : Int)) = ((d % n : Nat) : Int) := by rw [Int.natCast_emod]
/-- a plan of as many days -/
def PlanLR (k : K) (F : Hp) (v : AV) (F' : Hp) : Prop := ∃ Fo p, RowI Fo v p ∧ p.length = k.sales.length ∧ F' = Fo ++ F
theorem f35_okS {k : K} {sv cv bv : AV} {byl : List Int} (h : KVal F k sv cv) (hchk : chk k = 0) (hby : NumsV F .u8 255 bv byl) : Fn tblW lo (fnv 35) [.agg (kl k sv cv), bv] F (fun v F' => PlanLR k F v F' ∧ Sl 1 v) := by
  have hk := h
  have hv := Vk.of hchk
  have h7 := hv.n2
  have hm1 := hv.most1
  have hm2 := hv.most2
  refine Fn.func (fn := af35) rfl rfl ?_
  (repeat' (first | (first | refine Wo.nil ?_ | refine Wd.nil ?_ | ((first | refine Wo.cons ?_ | refine Wd.cons ?_); (try refine W1.go rfl rfl ?_); ((first | refine k1 ?_ | refine k2 ?_ | refine W1.min3 rfl rfl rfl ?_ | (refine isBinLss ?_; first | refine W1.lss rfl rfl (fun hx => absurd hx (by omega)) (fun _ => ?_) | refine W1.lss rfl rfl (fun _ => ?_) (fun hx => absurd hx (by omega))) | (refine isCall ?_; refine W1.callM rfl rfl ((f17_ok (by repeat (first | assumption | apply KVal.cons | apply KVal.app))).mono fun v F' h => ?_)) | (refine isIaddrs ?_; refine W1.iaddrZ (d % byl.length) hbr rfl rfl mod_nat (Nat.mod_lt _ (by omega)) (fun _ _ _ _ _ _ _ => ?_)) | (refine isLoad ?_; first | refine W1.load1 rfl inF (seg_get0 (by assumption) rfl) ?_ | refine W1.load1R rfl inF (show (kl k sv cv)[0 + 2]? = some (.int .i64 k.most) from rfl) inB ?_) | (refine isConv ?_; refine W1.convI rfl (by have := hby.nn (d % byl.length); omega) ?_) | (refine isBinRem ?_; refine W1.remN rfl rfl (by omega) (by first | omega | exact (hby.nn _).1) (fun _ _ => ?_)) | (refine isLen ?_; refine W1.lenZ hbr rfl ?_) | (refine isApp ?_; refine W1.appI (F1 := [_]) rfl hown rfl rfl inF (by omega) (fun ov' Fo' ho' => ?_)) | refine W1.auto ?_ | ((first | refine kA ?_ | refine kB ?_ | refine kC ?_ | refine kD ?_ | refine kE ?_ | refine kF ?_ | refine kG ?_); refine ⟨fun _ => ?_, fun _ => ?_⟩) | refine W1.alloc (fun _ _ => ?_) | refine W1.boxA rfl (fun _ _ => ?_) | refine kq (fun _ _ => ?_) | refine kp ?_ | (refine isIaddrs ?_; first | refine W1.iaddrI inI rfl rfl (by omega) (fun _ _ _ _ _ _ => ?_) | refine W1.iaddrR inR rfl rfl (by omega) (fun _ _ _ _ _ _ _ => ?_)) | (refine isBox ?_; refine W1.boxS inW (by rfl) (fun _ _ => ?_)) | (refine isBslice ?_; refine W1.bslice (fill_all inC rfl) (fun _ _ => ?_))) <;> (try refine ⟨fun _ => rfl, ?_⟩)))) | (first | refine Ws.seq ?_ | refine Ws.region ?_ | refine Ws.draw (fun bd hbd => ?_) | refine Ws.cond rfl ?_ | refine Ws.skip ?_ | refine Ws.scope ?_ | refine Ws.block ?_ | refine Ws.exit ?_ | refine Ws.ret ?_)))
  obtain ⟨ov, Fo, rfl, hov, rfl⟩ := h
  rename_i b0 hb0
  rw [bres_ok hchk] at hov
  have hov' : RowR (Fo ++ ((b0, .cells (kl k sv cv) true) :: F)) ov (bnds k k.sales.length) := hov.mono (List.subset_append_left _ _)
  have hbl := bnds_len k k.sales.length
  (repeat' (first | (first | refine Wo.nil ?_ | refine Wd.nil ?_ | ((first | refine Wo.cons ?_ | refine Wd.cons ?_); (try refine W1.go rfl rfl ?_); ((first | refine k1 ?_ | refine k2 ?_ | refine W1.min3 rfl rfl rfl ?_ | (refine isBinLss ?_; first | refine W1.lss rfl rfl (fun hx => absurd hx (by omega)) (fun _ => ?_) | refine W1.lss rfl rfl (fun _ => ?_) (fun hx => absurd hx (by omega))) | (refine isCall ?_; refine W1.callM rfl rfl ((f17_ok (by repeat (first | assumption | apply KVal.cons | apply KVal.app))).mono fun v F' h => ?_)) | (refine isIaddrs ?_; refine W1.iaddrZ (d % byl.length) hbr rfl rfl mod_nat (Nat.mod_lt _ (by omega)) (fun _ _ _ _ _ _ _ => ?_)) | (refine isLoad ?_; first | refine W1.load1 rfl inF (seg_get0 (by assumption) rfl) ?_ | refine W1.load1R rfl inF (show (kl k sv cv)[0 + 2]? = some (.int .i64 k.most) from rfl) inB ?_) | (refine isConv ?_; refine W1.convI rfl (by have := hby.nn (d % byl.length); omega) ?_) | (refine isBinRem ?_; refine W1.remN rfl rfl (by omega) (by first | omega | exact (hby.nn _).1) (fun _ _ => ?_)) | (refine isLen ?_; refine W1.lenZ hbr rfl ?_) | (refine isApp ?_; refine W1.appI (F1 := [_]) rfl hown rfl rfl inF (by omega) (fun ov' Fo' ho' => ?_)) | refine W1.auto ?_ | ((first | refine kA ?_ | refine kB ?_ | refine kC ?_ | refine kD ?_ | refine kE ?_ | refine kF ?_ | refine kG ?_); refine ⟨fun _ => ?_, fun _ => ?_⟩) | refine W1.alloc (fun _ _ => ?_) | refine W1.boxA rfl (fun _ _ => ?_) | refine kq (fun _ _ => ?_) | refine kp ?_ | (refine isIaddrs ?_; first | refine W1.iaddrI inI rfl rfl (by omega) (fun _ _ _ _ _ _ => ?_) | refine W1.iaddrR inR rfl rfl (by omega) (fun _ _ _ _ _ _ _ => ?_)) | (refine isBox ?_; refine W1.boxS inW (by rfl) (fun _ _ => ?_)) | (refine isBslice ?_; refine W1.bslice (fill_all inC rfl) (fun _ _ => ?_))) <;> (try refine ⟨fun _ => rfl, ?_⟩)))) | (first | refine Ws.seq ?_ | refine Ws.region ?_ | refine Ws.draw (fun bd hbd => ?_) | refine Ws.cond rfl ?_ | refine Ws.skip ?_ | refine Ws.scope ?_ | refine Ws.block ?_ | refine Ws.exit ?_ | refine Ws.ret ?_)))
  refine Ws.loopD 9223372036854712192 rfl [(1, _), (2, _), (5, _)] ⟨inW, inW, inW, trivial⟩ [1, 2, 5] rfl rfl (X := Nat × Int × AV × Hp × List Int) (fun p => [(7, p.2.2.1), (8, .int .i64 p.2.1), (9, .int .i64 (p.1 : Nat))]) (fun p => p.2.2.2.1 ++ (Fo ++ ((b0, .cells (kl k sv cv) true) :: F)))
    (fun p => p.1 ≤ k.sales.length ∧ 0 ≤ p.2.1 ∧ p.2.1 ≤ 10 * (p.1 : Int) ∧ OwnI lo false p.2.2.1 p.2.2.2.1 p.2.2.2.2 ∧ p.2.2.2.2.length = p.1) (fun p => k.sales.length - p.1) (0, 0, .slc none 0 0 true 0, [], [])
    ⟨rfl, rfl, rfl, trivial⟩ inS ⟨Nat.zero_le _, Int.le_refl _, by show (0 : Int) ≤ 10 * ((0 : Nat) : Int); omega, .nil, rfl⟩ ?_
  rintro ⟨d, loads, av, Fp, acc⟩ B ⟨hd, hl0, hl1, hown, hla⟩
  simp only at hd hl0 hl1 hown hla ⊢
  have hbr : RowZ (nums .u8) 1 (Fp ++ (Fo ++ ((b0, .cells (kl k sv cv) true) :: F))) bv byl := hby.row.cons.app.app
  by_cases hdn : d < k.sales.length
  · have e0 := bnds_get k hdn
    have f1 : ((bnds k k.sales.length).getD d (0, 0)).1 = nd k d := by rw [e0]
    have f2 : ((bnds k k.sales.length).getD d (0, 0)).2 = rm k d := by rw [e0]
    have f3 := nd_in hv hdn
    have f4 := rm_in hv hdn
    (repeat' (first | (first | refine Wo.nil ?_ | refine Wd.nil ?_ | ((first | refine Wo.cons ?_ | refine Wd.cons ?_); (try refine W1.go rfl rfl ?_); ((first | refine k1 ?_ | refine k2 ?_ | refine W1.min3 rfl rfl rfl ?_ | (refine isBinLss ?_; first | refine W1.lss rfl rfl (fun hx => absurd hx (by omega)) (fun _ => ?_) | refine W1.lss rfl rfl (fun _ => ?_) (fun hx => absurd hx (by omega))) | (refine isCall ?_; refine W1.callM rfl rfl ((f17_ok (by repeat (first | assumption | apply KVal.cons | apply KVal.app))).mono fun v F' h => ?_)) | (refine isIaddrs ?_; refine W1.iaddrZ (d % byl.length) hbr rfl rfl mod_nat (Nat.mod_lt _ (by omega)) (fun _ _ _ _ _ _ _ => ?_)) | (refine isLoad ?_; first | refine W1.load1 rfl inF (seg_get0 (by assumption) rfl) ?_ | refine W1.load1R rfl inF (show (kl k sv cv)[0 + 2]? = some (.int .i64 k.most) from rfl) inB ?_) | (refine isConv ?_; refine W1.convI rfl (by have := hby.nn (d % byl.length); omega) ?_) | (refine isBinRem ?_; refine W1.remN rfl rfl (by omega) (by first | omega | exact (hby.nn _).1) (fun _ _ => ?_)) | (refine isLen ?_; refine W1.lenZ hbr rfl ?_) | (refine isApp ?_; refine W1.appI (F1 := [_]) rfl hown rfl rfl inF (by omega) (fun ov' Fo' ho' => ?_)) | refine W1.auto ?_ | ((first | refine kA ?_ | refine kB ?_ | refine kC ?_ | refine kD ?_ | refine kE ?_ | refine kF ?_ | refine kG ?_); refine ⟨fun _ => ?_, fun _ => ?_⟩) | refine W1.alloc (fun _ _ => ?_) | refine W1.boxA rfl (fun _ _ => ?_) | refine kq (fun _ _ => ?_) | refine kp ?_ | (refine isIaddrs ?_; first | refine W1.iaddrI inI rfl rfl (by omega) (fun _ _ _ _ _ _ => ?_) | refine W1.iaddrR inR rfl rfl (by omega) (fun _ _ _ _ _ _ _ => ?_)) | (refine isBox ?_; refine W1.boxS inW (by rfl) (fun _ _ => ?_)) | (refine isBslice ?_; refine W1.bslice (fill_all inC rfl) (fun _ _ => ?_))) <;> (try refine ⟨fun _ => rfl, ?_⟩)))) | (first | refine Ws.seq ?_ | refine Ws.region ?_ | refine Ws.draw (fun bd hbd => ?_) | refine Ws.cond rfl ?_ | refine Ws.skip ?_ | refine Ws.scope ?_ | refine Ws.block ?_ | refine Ws.exit ?_ | refine Ws.ret ?_)))
    all_goals exact ⟨(d + 1, _, ov', Fo', _), ⟨rfl, rfl, rfl, trivial⟩, inS, ⟨by show d + 1 ≤ _; omega, by show (0 : Int) ≤ loads + _; omega, by show loads + _ ≤ 10 * ((d + 1 : Nat) : Int); omega, ho', by simp [hla]⟩, by show _ - (d + 1) < _; omega⟩
  · (repeat' (first | (first | refine Wo.nil ?_ | refine Wd.nil ?_ | ((first | refine Wo.cons ?_ | refine Wd.cons ?_); (try refine W1.go rfl rfl ?_); ((first | refine k1 ?_ | refine k2 ?_ | refine W1.min3 rfl rfl rfl ?_ | (refine isBinLss ?_; first | refine W1.lss rfl rfl (fun hx => absurd hx (by omega)) (fun _ => ?_) | refine W1.lss rfl rfl (fun _ => ?_) (fun hx => absurd hx (by omega))) | (refine isCall ?_; refine W1.callM rfl rfl ((f17_ok (by repeat (first | assumption | apply KVal.cons | apply KVal.app))).mono fun v F' h => ?_)) | (refine isIaddrs ?_; refine W1.iaddrZ (d % byl.length) hbr rfl rfl mod_nat (Nat.mod_lt _ (by omega)) (fun _ _ _ _ _ _ _ => ?_)) | (refine isLoad ?_; first | refine W1.load1 rfl inF (seg_get0 (by assumption) rfl) ?_ | refine W1.load1R rfl inF (show (kl k sv cv)[0 + 2]? = some (.int .i64 k.most) from rfl) inB ?_) | (refine isConv ?_; refine W1.convI rfl (by have := hby.nn (d % byl.length); omega) ?_) | (refine isBinRem ?_; refine W1.remN rfl rfl (by omega) (by first | omega | exact (hby.nn _).1) (fun _ _ => ?_)) | (refine isLen ?_; refine W1.lenZ hbr rfl ?_) | (refine isApp ?_; refine W1.appI (F1 := [_]) rfl hown rfl rfl inF (by omega) (fun ov' Fo' ho' => ?_)) | refine W1.auto ?_ | ((first | refine kA ?_ | refine kB ?_ | refine kC ?_ | refine kD ?_ | refine kE ?_ | refine kF ?_ | refine kG ?_); refine ⟨fun _ => ?_, fun _ => ?_⟩) | refine W1.alloc (fun _ _ => ?_) | refine W1.boxA rfl (fun _ _ => ?_) | refine kq (fun _ _ => ?_) | refine kp ?_ | (refine isIaddrs ?_; first | refine W1.iaddrI inI rfl rfl (by omega) (fun _ _ _ _ _ _ => ?_) | refine W1.iaddrR inR rfl rfl (by omega) (fun _ _ _ _ _ _ _ => ?_)) | (refine isBox ?_; refine W1.boxS inW (by rfl) (fun _ _ => ?_)) | (refine isBslice ?_; refine W1.bslice (fill_all inC rfl) (fun _ _ => ?_))) <;> (try refine ⟨fun _ => rfl, ?_⟩)))) | (first | refine Ws.seq ?_ | refine Ws.region ?_ | refine Ws.draw (fun bd hbd => ?_) | refine Ws.cond rfl ?_ | refine Ws.skip ?_ | refine Ws.scope ?_ | refine Ws.block ?_ | refine Ws.exit ?_ | refine Ws.ret ?_)))
    refine FnEnd.ret (F0 := F) (Q := fun v F' => PlanLR k F v F' ∧ Sl 1 v) (F' := Fp ++ F) (vs := [_]) (.tmp inW .nil) ?_ ⟨⟨Fp, acc, hown.rowI (List.Subset.refl _), by omega, rfl⟩, hown.sl⟩
    exact List.Sublist.append (List.Sublist.refl _) ((List.sublist_cons_self _ _).trans (List.sublist_append_right _ _))
theorem f35_ok {k : K} {sv cv bv : AV} {byl : List Int} (h : KVal F k sv cv) (hchk : chk k = 0) (hby : NumsV F .u8 255 bv byl) : Fn tblW lo (fnv 35) [.agg (kl k sv cv), bv] F (PlanLR k F) := (f35_okS h hchk hby).mono fun _ _ h => h.1
end Go.Ax
