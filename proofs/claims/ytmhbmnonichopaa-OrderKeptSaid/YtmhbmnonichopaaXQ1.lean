/-
  Contracts: the litres of all days in a truth, by the program.
-/
import Derived.Test.YtmhbmnonichopaaXQ0
namespace Go.Ax
set_option maxHeartbeats 4000000
set_option linter.unusedSimpArgs false
set_option linter.unusedVariables false
variable {lo : Nat} {F : Hp}

theorem wi1_true {l h a : Int} (e : wi l h [a] = true) : l ≤ a ∧ a ≤ h := by rw [wi1] at e; exact of_decide_eq_true e
theorem wi1_false {l h a : Int} (e : wi l h [a] = false) : a < l ∨ h < a := by rw [wi1] at e; have := of_decide_eq_false e; omega

theorem f23_ok {k : K} {sv cv pv qv : AV} {plan sales : List Int} {start : Int} (h : KVal F k sv cv) (hp : RowI F pv plan) (hlp : plan.length ≤ 9223372036854775807) (hq : RowI F qv sales) (hlq : sales.length ≤ 9223372036854775807) :
    Fn tblW lo (fnv 23) [.agg (kl k sv cv), pv, .int .i64 start, qv] F (FolR k plan start sales F) := by
  have hk := h
  obtain ⟨hs, hc, hls, hlc⟩ := h
  refine Fn.func (fn := af23) rfl rfl ?_
  (repeat' (first | (first | refine Wo.nil ?_ | refine Wd.nil ?_ | ((first | refine Wo.cons ?_ | refine Wd.cons ?_); (try refine W1.go rfl rfl ?_); ((first | refine k1 ?_ | refine k2 ?_ | (refine isCall ?_; first | refine W1.pure rfl rfl (f20_ok (by repeat (first | assumption | apply KVal.cons))) ?_ | refine W1.pureB rfl rfl (f47_ok (xs := [start]) (RowI.lit inF rfl) (by simp only [List.length_cons, List.length_nil]; omega)) (fun _ => ?_) (fun _ => ?_) | refine W1.pureB rfl rfl (f45_ok (p := fun x => decide (x < 0 ∨ k.most < x)) inI hlp (fun _ _ => f52_ok inF)) (fun _ => ?_) (fun _ => ?_) | refine W1.pureB rfl rfl (f47_ok (xs := [sales.getD i 0]) (RowI.lit inF rfl) (by simp only [List.length_cons, List.length_nil]; omega)) (fun _ => ?_) (fun _ => ?_)) | (refine isSlc ?_; refine W1.slcFull ho rfl rfl rfl (fun ov2 ho2 => ?_)) | (refine isApp ?_; refine W1.appI (F1 := [_]) rfl ho2 rfl rfl inF (by omega) (fun ov' Fo' ho' => ?_)) | refine W1.auto ?_ | ((first | refine kA ?_ | refine kB ?_ | refine kC ?_ | refine kD ?_ | refine kE ?_ | refine kF ?_ | refine kG ?_); refine ⟨fun _ => ?_, fun _ => ?_⟩) | refine W1.alloc (fun _ _ => ?_) | refine W1.boxA rfl (fun _ _ => ?_) | refine kq (fun _ _ => ?_) | refine kp ?_ | (refine isIaddrs ?_; first | refine W1.iaddrI inI rfl rfl (by omega) (fun _ _ _ _ _ _ => ?_) | refine W1.iaddrR inR rfl rfl (by omega) (fun _ _ _ _ _ _ _ => ?_)) | (refine isBox ?_; refine W1.boxS inW (by rfl) (fun _ _ => ?_)) | (refine isBslice ?_; refine W1.bslice (fill_all inC rfl) (fun _ _ => ?_))) <;> (try refine ⟨fun _ => rfl, ?_⟩)))) | (first | refine Ws.seq ?_ | refine Ws.region ?_ | refine Ws.draw (fun bd hbd => ?_) | refine Ws.cond rfl ?_ | refine Ws.skip ?_ | refine Ws.scope ?_ | refine Ws.block ?_ | refine Ws.exit ?_ | refine Ws.ret ?_)))
  · refine FnEnd.ret (F' := F) (vs := [_, _]) (.tmp inW (.tmp inW .nil)) inS (FolR.no ?_); exact fol_chk (by assumption)
  · refine FnEnd.ret (F' := F) (vs := [_, _]) (.tmp inW (.tmp inW .nil)) inS (FolR.no ?_); exact fol_len (by assumption) (by omega)
  · refine FnEnd.ret (F' := F) (vs := [_, _]) (.tmp inW (.tmp inW .nil)) inS (FolR.no ?_); exact fol_len (by assumption) (by omega)
  · refine FnEnd.ret (F' := F) (vs := [_, _]) (.tmp inW (.tmp inW .nil)) inS (FolR.no ?_); exact fol_off (by assumption) (by omega) (by omega) (.inr (.inl (by assumption)))
  rotate_left
  · refine FnEnd.ret (F' := F) (vs := [_, _]) (.tmp inW (.tmp inW .nil)) inS (FolR.no ?_); exact fol_off (by assumption) (by omega) (by omega) (.inl (wi1_false (by assumption)))
  rename_i b0 hb0 hchk hl1 hl2 bst hbst hst hoff
  have hst := wi1_true hst
  have hoff : offPlan k plan = false := hoff
  refine Ws.loopG (X := Nat) (fun i => [(1, pv), (2, .int .i64 start), (3, qv), (4, .ptr (some (b0, 0))), (54, sv), (55, .int .i64 k.sales.length), (56, .int .i64 (i : Nat))]) (fun _ => (b0, .cells (kl k sv cv) true) :: F)
    (fun i => i ≤ k.sales.length ∧ ∀ j, j < i → saleOk k sales j) (fun i => k.sales.length - i) 0
    ⟨rfl, rfl, rfl, rfl, rfl, rfl, rfl, trivial⟩ inS ⟨Nat.zero_le _, fun j hj => absurd hj (Nat.not_lt_zero j)⟩ ?_
  rintro i B ⟨hi, hb2⟩
  (repeat' (first | (first | refine Wo.nil ?_ | refine Wd.nil ?_ | ((first | refine Wo.cons ?_ | refine Wd.cons ?_); (try refine W1.go rfl rfl ?_); ((first | refine k1 ?_ | refine k2 ?_ | (refine isCall ?_; first | refine W1.pure rfl rfl (f20_ok (by repeat (first | assumption | apply KVal.cons))) ?_ | refine W1.pureB rfl rfl (f47_ok (xs := [start]) (RowI.lit inF rfl) (by simp only [List.length_cons, List.length_nil]; omega)) (fun _ => ?_) (fun _ => ?_) | refine W1.pureB rfl rfl (f45_ok (p := fun x => decide (x < 0 ∨ k.most < x)) inI hlp (fun _ _ => f52_ok inF)) (fun _ => ?_) (fun _ => ?_) | refine W1.pureB rfl rfl (f47_ok (xs := [sales.getD i 0]) (RowI.lit inF rfl) (by simp only [List.length_cons, List.length_nil]; omega)) (fun _ => ?_) (fun _ => ?_)) | (refine isSlc ?_; refine W1.slcFull ho rfl rfl rfl (fun ov2 ho2 => ?_)) | (refine isApp ?_; refine W1.appI (F1 := [_]) rfl ho2 rfl rfl inF (by omega) (fun ov' Fo' ho' => ?_)) | refine W1.auto ?_ | ((first | refine kA ?_ | refine kB ?_ | refine kC ?_ | refine kD ?_ | refine kE ?_ | refine kF ?_ | refine kG ?_); refine ⟨fun _ => ?_, fun _ => ?_⟩) | refine W1.alloc (fun _ _ => ?_) | refine W1.boxA rfl (fun _ _ => ?_) | refine kq (fun _ _ => ?_) | refine kp ?_ | (refine isIaddrs ?_; first | refine W1.iaddrI inI rfl rfl (by omega) (fun _ _ _ _ _ _ => ?_) | refine W1.iaddrR inR rfl rfl (by omega) (fun _ _ _ _ _ _ _ => ?_)) | (refine isBox ?_; refine W1.boxS inW (by rfl) (fun _ _ => ?_)) | (refine isBslice ?_; refine W1.bslice (fill_all inC rfl) (fun _ _ => ?_))) <;> (try refine ⟨fun _ => rfl, ?_⟩)))) | (first | refine Ws.seq ?_ | refine Ws.region ?_ | refine Ws.draw (fun bd hbd => ?_) | refine Ws.cond rfl ?_ | refine Ws.skip ?_ | refine Ws.scope ?_ | refine Ws.block ?_ | refine Ws.exit ?_ | refine Ws.ret ?_)))
  · refine ⟨i + 1, ⟨rfl, rfl, rfl, rfl, rfl, rfl, rfl, trivial⟩, inS, ⟨by omega, fun j hj => ?_⟩, by omega⟩
    rcases Nat.lt_succ_iff_lt_or_eq.1 hj with h | rfl
    · exact hb2 j h
    · exact wi1_true (by assumption)
  · refine FnEnd.ret (F' := F) (vs := [_, _]) (.tmp inW (.tmp inW .nil)) inS (FolR.no ?_); exact fol_off (by assumption) (by omega) (by omega) (.inr (.inr ⟨i, by omega, fun hh => by have h1 := hh.1; have h2 := hh.2; have := wi1_false (by assumption); omega⟩))
  have hsoff : ¬ salesOff k sales := fun ⟨d, hd, hn⟩ => hn (hb2 d (by omega))
  have hsok : ∀ d, d < k.sales.length → saleOk k sales d := fun d hd => hb2 d (by omega)
  have hv := Vk.of hchk
  have h7 := hv.n2
  have v1 := hv.slo
  have v2 := hv.shi
  have v3 := hv.cap2
  have hP0 := fol_go (plan := plan) (sales := sales) (start := start) hchk (by omega) (by omega) (by omega) hoff hsoff
  refine Ws.loopG (X := Nat × Int × AV × Hp × List Int) (fun p => [(3, qv), (4, .ptr (some (b0, 0))), (73, pv), (74, .int .i64 plan.length), (13, p.2.2.1), (2, .int .i64 p.2.1), (75, .int .i64 (p.1 : Nat))])
    (fun p => p.2.2.2.1 ++ ((b0, .cells (kl k sv cv) true) :: F))
    (fun p => p.1 ≤ k.sales.length ∧ (0 ≤ p.2.1 ∧ p.2.1 ≤ 100000) ∧ OwnI lo false p.2.2.1 p.2.2.2.1 p.2.2.2.2 ∧ p.2.2.2.2.length = p.1 ∧ fol k plan start sales = folg k plan sales p.1 (k.sales.length - p.1) p.2.1 p.2.2.2.2)
    (fun p => k.sales.length - p.1) (0, start, .slc none 0 0 true 0, [], [])
    ⟨rfl, rfl, rfl, rfl, rfl, rfl, rfl, trivial⟩ inS ⟨Nat.zero_le _, ⟨by show (0 : Int) ≤ start; omega, by show start ≤ 100000; omega⟩, .nil, rfl, hP0⟩ ?_
  clear hi hb2
  rintro ⟨i, x, ov, Fo, acc⟩ B ⟨hi, hx, ho, hla, hP⟩
  simp only at hi hx ho hla hP ⊢
  have i4 : i < k.sales.length → _ := fun h => day_load hv hoff (show i < plan.length by omega)
  have i5 : i < k.sales.length → 0 ≤ sales.getD i 0 ∧ sales.getD i 0 ≤ 100000 := fun h => by have h1 := hsok i h; have h2 := hv.sale i h; unfold saleOk at h1; omega
  have hro : RowI (Fo ++ ((b0, .cells (kl k sv cv) true) :: F)) ov acc := ho.rowI (List.subset_append_left _ _)
  (repeat' (first | (first | refine Wo.nil ?_ | refine Wd.nil ?_ | ((first | refine Wo.cons ?_ | refine Wd.cons ?_); (try refine W1.go rfl rfl ?_); ((first | refine k1 ?_ | refine k2 ?_ | (refine isCall ?_; first | refine W1.pure rfl rfl (f20_ok (by repeat (first | assumption | apply KVal.cons))) ?_ | refine W1.pureB rfl rfl (f47_ok (xs := [start]) (RowI.lit inF rfl) (by simp only [List.length_cons, List.length_nil]; omega)) (fun _ => ?_) (fun _ => ?_) | refine W1.pureB rfl rfl (f45_ok (p := fun x => decide (x < 0 ∨ k.most < x)) inI hlp (fun _ _ => f52_ok inF)) (fun _ => ?_) (fun _ => ?_) | refine W1.pureB rfl rfl (f47_ok (xs := [sales.getD i 0]) (RowI.lit inF rfl) (by simp only [List.length_cons, List.length_nil]; omega)) (fun _ => ?_) (fun _ => ?_)) | (refine isSlc ?_; refine W1.slcFull ho rfl rfl rfl (fun ov2 ho2 => ?_)) | (refine isApp ?_; refine W1.appI (F1 := [_]) rfl ho2 rfl rfl inF (by omega) (fun ov' Fo' ho' => ?_)) | refine W1.auto ?_ | ((first | refine kA ?_ | refine kB ?_ | refine kC ?_ | refine kD ?_ | refine kE ?_ | refine kF ?_ | refine kG ?_); refine ⟨fun _ => ?_, fun _ => ?_⟩) | refine W1.alloc (fun _ _ => ?_) | refine W1.boxA rfl (fun _ _ => ?_) | refine kq (fun _ _ => ?_) | refine kp ?_ | (refine isIaddrs ?_; first | refine W1.iaddrI inI rfl rfl (by omega) (fun _ _ _ _ _ _ => ?_) | refine W1.iaddrR inR rfl rfl (by omega) (fun _ _ _ _ _ _ _ => ?_)) | (refine isBox ?_; refine W1.boxS inW (by rfl) (fun _ _ => ?_)) | (refine isBslice ?_; refine W1.bslice (fill_all inC rfl) (fun _ _ => ?_))) <;> (try refine ⟨fun _ => rfl, ?_⟩)))) | (first | refine Ws.seq ?_ | refine Ws.region ?_ | refine Ws.draw (fun bd hbd => ?_) | refine Ws.cond rfl ?_ | refine Ws.skip ?_ | refine Ws.scope ?_ | refine Ws.block ?_ | refine Ws.exit ?_ | refine Ws.ret ?_)))
  · refine FnEnd.ret (F' := F) (vs := [_, _]) (.tmp inW (.tmp inW .nil)) inS (FolR.no ?_)
    rw [hP, folg_step k plan sales (by omega), if_pos (by omega)]
  · refine FnEnd.ret (F' := F) (vs := [_, _]) (.tmp inW (.tmp inW .nil)) inS (FolR.no ?_)
    rw [hP, folg_step k plan sales (by omega), if_neg (by omega), if_pos (by omega)]
  · refine ⟨(i + 1, _, ov', Fo', _), ⟨rfl, rfl, rfl, rfl, rfl, rfl, rfl, trivial⟩, inS, ⟨by show i + 1 ≤ _; omega, ⟨by assumption, ?_⟩, ho', by simp [hla], ?_⟩, by show _ - (i + 1) < _; omega⟩
    · show x + plan.getD i 0 * k.load - sales.getD i 0 ≤ 100000
      have := i5 (by omega)
      omega
    · show fol k plan start sales = folg k plan sales (i + 1) (k.sales.length - (i + 1)) _ _
      rw [hP, folg_step k plan sales (by omega), if_neg (by omega), if_neg (by omega)]
  · have e : fol k plan start sales = (acc, 0) := by rw [hP, show k.sales.length - i = 0 by omega]; rfl
    exact FnEnd.ret (F' := Fo ++ F) (vs := [_, _]) (.tmp inW (.tmp inW .nil)) inS ⟨ov, Fo, by rw [e]; rfl, by rw [e]; exact ho.rowI (List.Subset.refl _), rfl⟩
end Go.Ax
