/-
  Contracts: the litres of all days in a truth.
-/
import Derived.Test.YtmhbmnonichopaaXO9
namespace Go.Ax
set_option maxHeartbeats 4000000
set_option linter.unusedSimpArgs false
set_option linter.unusedVariables false
variable {lo : Nat} {F : Hp}

def saleOk (k : K) (sales : List Int) (d : Nat) : Prop := (k.sales.getD d (0, 0)).1 ≤ sales.getD d 0 ∧ sales.getD d 0 ≤ (k.sales.getD d (0, 0)).2
def salesOff (k : K) (sales : List Int) : Prop := ∃ d, d < k.sales.length ∧ ¬ saleOk k sales d
def folg (k : K) (plan sales : List Int) : Nat → Nat → Int → List Int → List Int × Int
  | _, 0, _, acc => (acc, 0)
  | d, m + 1, x, acc => if k.cap < x + plan.getD d 0 * k.load then ([], 10) else if x + plan.getD d 0 * k.load - sales.getD d 0 < 0 then ([], 20)
    else folg k plan sales (d + 1) m (x + plan.getD d 0 * k.load - sales.getD d 0) (acc ++ [x + plan.getD d 0 * k.load - sales.getD d 0])
open Classical in
noncomputable def fol (k : K) (plan : List Int) (start : Int) (sales : List Int) : List Int × Int :=
  if chk k ≠ 0 then ([], chk k) else if plan.length ≠ k.sales.length ∨ sales.length ≠ k.sales.length then ([], 15)
  else if (start < k.slo ∨ k.shi < start) ∨ offPlan k plan = true ∨ salesOff k sales then ([], 3) else folg k plan sales 0 k.sales.length start []
theorem fol_chk {k : K} {plan sales : List Int} {start : Int} (h : chk k ≠ 0) : fol k plan start sales = ([], chk k) := if_pos h
theorem fol_len {k : K} {plan sales : List Int} {start : Int} (h : chk k = 0) (h2 : plan.length ≠ k.sales.length ∨ sales.length ≠ k.sales.length) : fol k plan start sales = ([], 15) := by
  unfold fol; rw [if_neg (by omega), if_pos h2]
theorem fol_off {k : K} {plan sales : List Int} {start : Int} (h : chk k = 0) (h2 : plan.length = k.sales.length) (h3 : sales.length = k.sales.length) (h4 : (start < k.slo ∨ k.shi < start) ∨ offPlan k plan = true ∨ salesOff k sales) : fol k plan start sales = ([], 3) := by
  unfold fol; rw [if_neg (by omega), if_neg (by omega), if_pos h4]
theorem fol_go {k : K} {plan sales : List Int} {start : Int} (h : chk k = 0) (h2 : plan.length = k.sales.length) (h3 : sales.length = k.sales.length) (h4 : k.slo ≤ start ∧ start ≤ k.shi) (h5 : offPlan k plan = false) (h6 : ¬ salesOff k sales) :
    fol k plan start sales = folg k plan sales 0 (k.sales.length - 0) start [] := by
  unfold fol
  rw [if_neg (by omega), if_neg (by omega), if_neg]
  · rfl
  · rintro (h | h | h)
    · omega
    · rw [h5] at h; cases h
    · exact h6 h
theorem folg_step (k : K) (plan sales : List Int) {d n : Nat} (h : d < n) (x : Int) (acc : List Int) : folg k plan sales d (n - d) x acc =
    if k.cap < x + plan.getD d 0 * k.load then ([], 10) else if x + plan.getD d 0 * k.load - sales.getD d 0 < 0 then ([], 20)
    else folg k plan sales (d + 1) (n - (d + 1)) (x + plan.getD d 0 * k.load - sales.getD d 0) (acc ++ [x + plan.getD d 0 * k.load - sales.getD d 0]) := by
  rw [show n - d = (n - (d + 1)) + 1 by omega]
  rfl
theorem day_load {k : K} {plan : List Int} (hv : Vk k) (h : offPlan k plan = false) {d : Nat} (hd : d < plan.length) : 0 ≤ plan.getD d 0 * k.load ∧ plan.getD d 0 * k.load ≤ 1000000 := by
  have h1 := on_plan h hd
  have h3 := hv.most2
  have h4 := hv.load1
  have h5 := hv.load2
  constructor
  · exact Int.mul_nonneg h1.1 (by omega)
  · calc plan.getD d 0 * k.load ≤ 10 * 100000 := Int.mul_le_mul (by omega) h5 (by omega) (by omega)
      _ = 1000000 := by decide
/-- a row comes back, and the error -/
def FolR (k : K) (plan : List Int) (start : Int) (sales : List Int) (F : Hp) (v : AV) (F' : Hp) : Prop := ∃ ov Fo, v = .tup [ov, .int .i64 (fol k plan start sales).2] ∧ RowI Fo ov (fol k plan start sales).1 ∧ F' = Fo ++ F
theorem FolR.no {k : K} {plan sales : List Int} {start e : Int} {F : Hp} (h : fol k plan start sales = ([], e)) : FolR k plan start sales F (.tup [.slc none 0 0 true 0, .int .i64 e]) F := ⟨_, [], by rw [h], by rw [h]; exact RowI.nil _ _ _ _ _, rfl⟩

theorem f24_ok {k : K} {sv cv pv qv : AV} {plan sales : List Int} {start : Int} (h : KVal F k sv cv) (hp : RowI F pv plan) (hlp : plan.length ≤ 9223372036854775807) (hq : RowI F qv sales) (hlq : sales.length ≤ 9223372036854775807) :
    Fn tblW lo (fnv 24) [.agg (kl k sv cv), pv, .int .i64 start, qv] F (FolR k plan start sales F) := by
  have hk := h
  obtain ⟨hs, hc, hls, hlc⟩ := h
  refine Fn.func (fn := af24) rfl rfl ?_
  (repeat' (first | (first | refine Wo.nil ?_ | refine Wd.nil ?_ | ((first | refine Wo.cons ?_ | refine Wd.cons ?_); (try refine W1.go rfl rfl ?_); ((first | refine k1 ?_ | refine k2 ?_ | (refine isCall ?_; refine W1.pure rfl rfl (f21_ok (by repeat (first | assumption | apply KVal.cons))) ?_) | (refine isApp ?_; refine W1.appI (F1 := [_]) rfl ho rfl rfl inF (by omega) (fun ov' Fo' ho' => ?_)) | refine W1.auto ?_ | ((first | refine kA ?_ | refine kB ?_ | refine kC ?_ | refine kD ?_ | refine kE ?_ | refine kF ?_ | refine kG ?_); refine ⟨fun _ => ?_, fun _ => ?_⟩) | refine W1.alloc (fun _ _ => ?_) | refine W1.boxA rfl (fun _ _ => ?_) | refine kq (fun _ _ => ?_) | refine kp ?_ | (refine isIaddrs ?_; first | refine W1.iaddrI inI rfl rfl (by omega) (fun _ _ _ _ _ _ => ?_) | refine W1.iaddrR inR rfl rfl (by omega) (fun _ _ _ _ _ _ _ => ?_)) | (refine isBox ?_; refine W1.boxS inW (by rfl) (fun _ _ => ?_)) | (refine isBslice ?_; refine W1.bslice (fill_all inC rfl) (fun _ _ => ?_))) <;> (try refine ⟨fun _ => rfl, ?_⟩)))) | (first | refine Ws.seq ?_ | refine Ws.region ?_ | refine Ws.draw (fun bd hbd => ?_) | refine Ws.cond rfl ?_ | refine Ws.skip ?_ | refine Ws.scope ?_ | refine Ws.block ?_ | refine Ws.exit ?_ | refine Ws.ret ?_)))
  · refine FnEnd.ret (F' := F) (vs := [_, _]) (.tmp inW (.tmp inW .nil)) inS (FolR.no ?_); exact fol_chk (by assumption)
  · refine FnEnd.ret (F' := F) (vs := [_, _]) (.tmp inW (.tmp inW .nil)) inS (FolR.no ?_); exact fol_len (by assumption) (by omega)
  · refine FnEnd.ret (F' := F) (vs := [_, _]) (.tmp inW (.tmp inW .nil)) inS (FolR.no ?_); exact fol_len (by assumption) (by omega)
  · refine FnEnd.ret (F' := F) (vs := [_, _]) (.tmp inW (.tmp inW .nil)) inS (FolR.no ?_); exact fol_off (by assumption) (by omega) (by omega) (by omega)
  · refine FnEnd.ret (F' := F) (vs := [_, _]) (.tmp inW (.tmp inW .nil)) inS (FolR.no ?_); exact fol_off (by assumption) (by omega) (by omega) (by omega)
  rename_i b0 hb0 hchk hl1 hl2 hst1 hst2
  refine Ws.loopG (X := Nat) (fun i => [(1, pv), (2, .int .i64 start), (3, qv), (4, .ptr (some (b0, 0))), (10, .int .i64 (i : Nat))]) (fun _ => (b0, .cells (kl k sv cv) true) :: F)
    (fun i => i ≤ plan.length ∧ (∀ j, j < i → 0 ≤ plan.getD j 0 ∧ plan.getD j 0 ≤ k.most) ∧ ∀ j, j < i → saleOk k sales j) (fun i => plan.length - i) 0
    ⟨rfl, rfl, rfl, rfl, rfl, trivial⟩ inS ⟨Nat.zero_le _, fun j hj => absurd hj (Nat.not_lt_zero j), fun j hj => absurd hj (Nat.not_lt_zero j)⟩ ?_
  rintro i B ⟨hi, hb, hb2⟩
  (repeat' (first | (first | refine Wo.nil ?_ | refine Wd.nil ?_ | ((first | refine Wo.cons ?_ | refine Wd.cons ?_); (try refine W1.go rfl rfl ?_); ((first | refine k1 ?_ | refine k2 ?_ | (refine isCall ?_; refine W1.pure rfl rfl (f21_ok (by repeat (first | assumption | apply KVal.cons))) ?_) | (refine isApp ?_; refine W1.appI (F1 := [_]) rfl ho rfl rfl inF (by omega) (fun ov' Fo' ho' => ?_)) | refine W1.auto ?_ | ((first | refine kA ?_ | refine kB ?_ | refine kC ?_ | refine kD ?_ | refine kE ?_ | refine kF ?_ | refine kG ?_); refine ⟨fun _ => ?_, fun _ => ?_⟩) | refine W1.alloc (fun _ _ => ?_) | refine W1.boxA rfl (fun _ _ => ?_) | refine kq (fun _ _ => ?_) | refine kp ?_ | (refine isIaddrs ?_; first | refine W1.iaddrI inI rfl rfl (by omega) (fun _ _ _ _ _ _ => ?_) | refine W1.iaddrR inR rfl rfl (by omega) (fun _ _ _ _ _ _ _ => ?_)) | (refine isBox ?_; refine W1.boxS inW (by rfl) (fun _ _ => ?_)) | (refine isBslice ?_; refine W1.bslice (fill_all inC rfl) (fun _ _ => ?_))) <;> (try refine ⟨fun _ => rfl, ?_⟩)))) | (first | refine Ws.seq ?_ | refine Ws.region ?_ | refine Ws.draw (fun bd hbd => ?_) | refine Ws.cond rfl ?_ | refine Ws.skip ?_ | refine Ws.scope ?_ | refine Ws.block ?_ | refine Ws.exit ?_ | refine Ws.ret ?_)))
  all_goals (try (refine FnEnd.ret (F' := F) (vs := [_, _]) (.tmp inW (.tmp inW .nil)) inS (FolR.no ?_); exact fol_off (by assumption) (by omega) (by omega) (.inr (.inl ((any_getD _ plan 0).2 ⟨i, by omega, by simp only [decide_eq_true_eq]; omega⟩)))))
  all_goals (try (refine FnEnd.ret (F' := F) (vs := [_, _]) (.tmp inW (.tmp inW .nil)) inS (FolR.no ?_); exact fol_off (by assumption) (by omega) (by omega) (.inr (.inr ⟨i, by omega, fun hh => by have h1 := hh.1; have h2 := hh.2; omega⟩))))
  · refine ⟨i + 1, ⟨rfl, rfl, rfl, rfl, rfl, trivial⟩, inS, ⟨by omega, fun j hj => ?_, fun j hj => ?_⟩, by omega⟩
    · rcases Nat.lt_succ_iff_lt_or_eq.1 hj with h | rfl
      · exact hb j h
      · exact ⟨by assumption, by assumption⟩
    · rcases Nat.lt_succ_iff_lt_or_eq.1 hj with h | rfl
      · exact hb2 j h
      · exact ⟨by assumption, by assumption⟩
  have hoff : offPlan k plan = false := (any_false_getD _ plan 0).2 fun j hj => by have := hb j (by omega); simp only [decide_eq_false_iff_not]; omega
  have hsoff : ¬ salesOff k sales := fun ⟨d, hd, hn⟩ => hn (hb2 d (by omega))
  have hsok : ∀ d, d < k.sales.length → saleOk k sales d := fun d hd => hb2 d (by omega)
  have hv := Vk.of hchk
  have h7 := hv.n2
  have v1 := hv.slo
  have v2 := hv.shi
  have v3 := hv.cap2
  have hP0 := fol_go (plan := plan) (sales := sales) (start := start) hchk (by omega) (by omega) (by omega) hoff hsoff
  refine Ws.loopG (X := Nat × Int × AV × Hp × List Int) (fun p => [(1, pv), (3, qv), (4, .ptr (some (b0, 0))), (11, p.2.2.1), (12, .int .i64 p.2.1), (13, .int .i64 (p.1 : Nat))])
    (fun p => p.2.2.2.1 ++ ((b0, .cells (kl k sv cv) true) :: F))
    (fun p => p.1 ≤ k.sales.length ∧ (0 ≤ p.2.1 ∧ p.2.1 ≤ 100000) ∧ OwnI lo false p.2.2.1 p.2.2.2.1 p.2.2.2.2 ∧ p.2.2.2.2.length = p.1 ∧ fol k plan start sales = folg k plan sales p.1 (k.sales.length - p.1) p.2.1 p.2.2.2.2)
    (fun p => k.sales.length - p.1) (0, start, .slc none 0 0 true 0, [], [])
    ⟨rfl, rfl, rfl, rfl, rfl, rfl, trivial⟩ inS ⟨Nat.zero_le _, ⟨by show (0 : Int) ≤ start; omega, by show start ≤ 100000; omega⟩, .nil, rfl, hP0⟩ ?_
  clear hi hb hb2
  rintro ⟨i, x, ov, Fo, acc⟩ B ⟨hi, hx, ho, hla, hP⟩
  simp only at hi hx ho hla hP ⊢
  have i4 : i < k.sales.length → _ := fun h => day_load hv hoff (show i < plan.length by omega)
  have i5 : i < k.sales.length → 0 ≤ sales.getD i 0 ∧ sales.getD i 0 ≤ 100000 := fun h => by have h1 := hsok i h; have h2 := hv.sale i h; unfold saleOk at h1; omega
  (repeat' (first | (first | refine Wo.nil ?_ | refine Wd.nil ?_ | ((first | refine Wo.cons ?_ | refine Wd.cons ?_); (try refine W1.go rfl rfl ?_); ((first | refine k1 ?_ | refine k2 ?_ | (refine isCall ?_; refine W1.pure rfl rfl (f21_ok (by repeat (first | assumption | apply KVal.cons))) ?_) | (refine isApp ?_; refine W1.appI (F1 := [_]) rfl ho rfl rfl inF (by omega) (fun ov' Fo' ho' => ?_)) | refine W1.auto ?_ | ((first | refine kA ?_ | refine kB ?_ | refine kC ?_ | refine kD ?_ | refine kE ?_ | refine kF ?_ | refine kG ?_); refine ⟨fun _ => ?_, fun _ => ?_⟩) | refine W1.alloc (fun _ _ => ?_) | refine W1.boxA rfl (fun _ _ => ?_) | refine kq (fun _ _ => ?_) | refine kp ?_ | (refine isIaddrs ?_; first | refine W1.iaddrI inI rfl rfl (by omega) (fun _ _ _ _ _ _ => ?_) | refine W1.iaddrR inR rfl rfl (by omega) (fun _ _ _ _ _ _ _ => ?_)) | (refine isBox ?_; refine W1.boxS inW (by rfl) (fun _ _ => ?_)) | (refine isBslice ?_; refine W1.bslice (fill_all inC rfl) (fun _ _ => ?_))) <;> (try refine ⟨fun _ => rfl, ?_⟩)))) | (first | refine Ws.seq ?_ | refine Ws.region ?_ | refine Ws.draw (fun bd hbd => ?_) | refine Ws.cond rfl ?_ | refine Ws.skip ?_ | refine Ws.scope ?_ | refine Ws.block ?_ | refine Ws.exit ?_ | refine Ws.ret ?_)))
  · refine FnEnd.ret (F' := F) (vs := [_, _]) (.tmp inW (.tmp inW .nil)) inS (FolR.no ?_)
    rw [hP, folg_step k plan sales (by omega), if_pos (by omega)]
  · refine FnEnd.ret (F' := F) (vs := [_, _]) (.tmp inW (.tmp inW .nil)) inS (FolR.no ?_)
    rw [hP, folg_step k plan sales (by omega), if_neg (by omega), if_pos (by omega)]
  · refine ⟨(i + 1, _, ov', Fo', _), ⟨rfl, rfl, rfl, rfl, rfl, rfl, trivial⟩, inS, ⟨by show i + 1 ≤ _; omega, ⟨by assumption, ?_⟩, ho', by simp [hla], ?_⟩, by show _ - (i + 1) < _; omega⟩
    · show x + plan.getD i 0 * k.load - sales.getD i 0 ≤ 100000
      have := i5 (by omega)
      omega
    · show fol k plan start sales = folg k plan sales (i + 1) (k.sales.length - (i + 1)) _ _
      rw [hP, folg_step k plan sales (by omega), if_neg (by omega), if_neg (by omega)]
  · have e : fol k plan start sales = (acc, 0) := by rw [hP, show k.sales.length - i = 0 by omega]; rfl
    exact FnEnd.ret (F' := Fo ++ F) (vs := [_, _]) (.tmp inW (.tmp inW .nil)) inS ⟨ov, Fo, by rw [e]; rfl, by rw [e]; exact ho.rowI (List.Subset.refl _), rfl⟩
end Go.Ax
