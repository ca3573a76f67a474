/-
  Needs and rooms: the specification's function.
-/
import Derived.Test.YtmhbmnonichopaaXO3
namespace Go.Ax
set_option maxHeartbeats 4000000
set_option linter.unusedSimpArgs false
set_option linter.unusedVariables false
variable {lo : Nat} {F : Hp}

structure Vk (k : K) : Prop where
  n1 : 1 ≤ k.sales.length
  n2 : k.sales.length ≤ 20
  n3 : k.costs.length = k.sales.length
  cap1 : 1 ≤ k.cap
  cap2 : k.cap ≤ 100000
  load1 : 1 ≤ k.load
  load2 : k.load ≤ 100000
  most1 : 0 ≤ k.most
  most2 : k.most ≤ 10
  slo : 0 ≤ k.slo
  start : k.slo ≤ k.shi
  shi : k.shi ≤ k.cap
  sale : ∀ j, j < k.sales.length → 0 ≤ (k.sales.getD j (0, 0)).1 ∧ (k.sales.getD j (0, 0)).1 ≤ (k.sales.getD j (0, 0)).2 ∧ (k.sales.getD j (0, 0)).2 ≤ 100000
  cost : ∀ j, j < k.sales.length → 0 ≤ k.costs.getD j 0 ∧ k.costs.getD j 0 ≤ 100000
theorem Vk.of {k : K} (h : chk k = 0) : Vk k := by
  unfold chk at h
  split at h
  · omega
  · split at h
    · omega
    · split at h
      · omega
      · split at h
        · omega
        · rename_i h1 h2 h3 h4
          have h4 : ∀ i, i < k.sales.length → ¬ badDay k i := fun i hi hb => h4 ((bad_any (by omega)).2 ⟨i, hi, hb⟩)
          refine ⟨by omega, by omega, by omega, by omega, by omega, by omega, by omega, by omega, by omega, by omega, by omega, by omega, fun j hj => ?_, fun j hj => ?_⟩
          · have := h4 j hj
            simp only [badDay, not_or, Bool.not_eq_false, vr_true] at this
            omega
          · have := h4 j hj
            simp only [badDay, not_or] at this
            omega

def lk (k : K) : Nat → Int
  | 0 => -k.slo
  | i + 1 => lk k i + (k.sales.getD i (0, 0)).2
def lf (k : K) : Nat → Int
  | 0 => k.cap - k.shi
  | i + 1 => lf k i + (k.sales.getD i (0, 0)).1
def nd (k : K) (d : Nat) : Int := if 0 < lk k (d + 1) then (lk k (d + 1) - 1) / k.load + 1 else 0
def rm (k : K) (d : Nat) : Int := lf k d / k.load
def bnds (k : K) (n : Nat) : List (Int × Int) := (List.range n).map fun d => (nd k d, rm k d)
theorem bnds_succ (k : K) (n : Nat) : bnds k (n + 1) = bnds k n ++ [(nd k n, rm k n)] := by simp [bnds, List.range_succ]
theorem bnds_len (k : K) (n : Nat) : (bnds k n).length = n := by simp [bnds]
theorem bnds_get (k : K) {n d : Nat} (h : d < n) : (bnds k n).getD d (0, 0) = (nd k d, rm k d) := by simp [bnds, List.getD, h]
theorem lk_in {k : K} (h : Vk k) : ∀ i, i ≤ k.sales.length → -100000 ≤ lk k i ∧ lk k i ≤ 100000 * i
  | 0, _ => by have := h.slo; have := h.start; have := h.shi; have := h.cap2; simp only [lk]; omega
  | i + 1, hi => by
    have := lk_in h i (by omega)
    have := h.sale i (by omega)
    simp only [lk]
    omega
theorem lf_in {k : K} (h : Vk k) : ∀ i, i ≤ k.sales.length → 0 ≤ lf k i ∧ lf k i ≤ 100000 * (i + 1)
  | 0, _ => by have := h.slo; have := h.start; have := h.shi; have := h.cap2; simp only [lf]; omega
  | i + 1, hi => by
    have := lf_in h i (by omega)
    have := h.sale i (by omega)
    simp only [lf]
    omega
theorem quo_in {a b : Int} (ha : 0 ≤ a) (hb : 1 ≤ b) : 0 ≤ a / b ∧ a / b ≤ a := ⟨Int.ediv_nonneg ha (by omega), Int.ediv_le_self b ha⟩
theorem nd_in {k : K} (h : Vk k) {d : Nat} (hd : d < k.sales.length) : 0 ≤ nd k d ∧ nd k d ≤ 3000000 := by
  have := lk_in h (d + 1) (by omega)
  have := h.n2
  unfold nd
  split
  · have := @quo_in (lk k (d + 1) - 1) k.load (by omega) h.load1
    omega
  · omega
theorem rm_in {k : K} (h : Vk k) {d : Nat} (hd : d < k.sales.length) : 0 ≤ rm k d ∧ rm k d ≤ 3000000 := by
  have := lf_in h d (by omega)
  have := h.n2
  have := @quo_in (lf k d) k.load (by omega) h.load1
  unfold rm
  omega
theorem lf_tdiv {k : K} (h : Vk k) {d : Nat} (hd : d < k.sales.length) : (lf k d).tdiv k.load = rm k d := Int.tdiv_eq_ediv_of_nonneg (lf_in h d (by omega)).1

theorem f44_ok {k : K} {sv cv : AV} (h : KVal F k sv cv) (hv : Vk k) : Fn tblW lo (fnv 44) [.agg (kl k sv cv)] F fun v F' => ∃ Fo, OwnR lo v Fo (bnds k k.sales.length) ∧ F' = Fo ++ F := by
  obtain ⟨hs, hc, hls, hlc⟩ := h
  have h1 := hv.slo
  have h2 := hv.start
  have h3 := hv.shi
  have h4 := hv.cap2
  have h5 := hv.load1
  have h6 := hv.load2
  have h7 := hv.n2
  refine Fn.func (fn := af44) rfl rfl ?_
  (repeat' (first | (first | refine Wo.nil ?_ | refine Wd.nil ?_ | ((first | refine Wo.cons ?_ | refine Wd.cons ?_); (try refine W1.go rfl rfl ?_); ((first | refine k1 ?_ | refine k2 ?_ | (refine isApp ?_; refine W1.appR (F1 := [_]) rfl ho rfl rfl inF (by rw [bnds_len]; omega) (fun ov' Fo' ho' => ?_)) | refine W1.auto ?_ | ((first | refine kA ?_ | refine kB ?_ | refine kC ?_ | refine kD ?_ | refine kE ?_ | refine kF ?_ | refine kG ?_); refine ⟨fun _ => ?_, fun _ => ?_⟩) | refine W1.alloc (fun _ _ => ?_) | refine W1.boxA rfl (fun _ _ => ?_) | refine kq (fun _ _ => ?_) | refine kp ?_ | (refine isIaddrs ?_; first | refine W1.iaddrI inI rfl rfl (by omega) (fun _ _ _ _ _ _ => ?_) | refine W1.iaddrR inR rfl rfl (by omega) (fun _ _ _ _ _ _ _ => ?_)) | (refine isBox ?_; refine W1.boxS inW (by rfl) (fun _ _ => ?_)) | (refine isBslice ?_; refine W1.bslice (fill_all inC rfl) (fun _ _ => ?_))) <;> (try refine ⟨fun _ => rfl, ?_⟩)))) | (first | refine Ws.seq ?_ | refine Ws.region ?_ | refine Ws.draw (fun bd hbd => ?_) | refine Ws.cond rfl ?_ | refine Ws.skip ?_ | refine Ws.scope ?_ | refine Ws.block ?_ | refine Ws.exit ?_ | refine Ws.ret ?_)))
  rename_i b hb
  refine Ws.loopG (X := Nat × AV × Hp) (fun p => [(1, .ptr (some (b, 0))), (3, p.2.1), (4, .int .i64 (lk k p.1)), (5, .int .i64 (lf k p.1)), (6, .int .i64 (p.1 : Nat))]) (fun p => p.2.2 ++ ((b, .cells (kl k sv cv) true) :: F))
    (fun p => p.1 ≤ k.sales.length ∧ OwnR lo p.2.1 p.2.2 (bnds k p.1)) (fun p => k.sales.length - p.1) (0, .slc none 0 0 true 0, [])
    ⟨rfl, rfl, rfl, rfl, rfl, trivial⟩ inS ⟨Nat.zero_le _, .nil⟩ ?_
  rintro ⟨i, ov, Fo⟩ B ⟨hi, ho⟩
  simp only at hi ho ⊢
  have i1 := lk_in hv i hi
  have i2 := lf_in hv i hi
  have hsl : i < k.sales.length → _ := fun h => hv.sale i h
  (repeat' (first | (first | refine Wo.nil ?_ | refine Wd.nil ?_ | ((first | refine Wo.cons ?_ | refine Wd.cons ?_); (try refine W1.go rfl rfl ?_); ((first | refine k1 ?_ | refine k2 ?_ | (refine isApp ?_; refine W1.appR (F1 := [_]) rfl ho rfl rfl inF (by rw [bnds_len]; omega) (fun ov' Fo' ho' => ?_)) | refine W1.auto ?_ | ((first | refine kA ?_ | refine kB ?_ | refine kC ?_ | refine kD ?_ | refine kE ?_ | refine kF ?_ | refine kG ?_); refine ⟨fun _ => ?_, fun _ => ?_⟩) | refine W1.alloc (fun _ _ => ?_) | refine W1.boxA rfl (fun _ _ => ?_) | refine kq (fun _ _ => ?_) | refine kp ?_ | (refine isIaddrs ?_; first | refine W1.iaddrI inI rfl rfl (by omega) (fun _ _ _ _ _ _ => ?_) | refine W1.iaddrR inR rfl rfl (by omega) (fun _ _ _ _ _ _ _ => ?_)) | (refine isBox ?_; refine W1.boxS inW (by rfl) (fun _ _ => ?_)) | (refine isBslice ?_; refine W1.bslice (fill_all inC rfl) (fun _ _ => ?_))) <;> (try refine ⟨fun _ => rfl, ?_⟩)))) | (first | refine Ws.seq ?_ | refine Ws.region ?_ | refine Ws.draw (fun bd hbd => ?_) | refine Ws.cond rfl ?_ | refine Ws.skip ?_ | refine Ws.scope ?_ | refine Ws.block ?_ | refine Ws.exit ?_ | refine Ws.ret ?_)))
  · refine ⟨(i + 1, ov', Fo'), ⟨rfl, rfl, rfl, rfl, rfl, trivial⟩, inS, ⟨by show i + 1 ≤ _; omega, ?_⟩, by show _ - (i + 1) < _; omega⟩
    show OwnR lo ov' Fo' (bnds k (i + 1))
    rw [bnds_succ, show nd k i = _ from if_pos (by assumption)]
    exact ho'
  · refine ⟨(i + 1, ov', Fo'), ⟨rfl, rfl, rfl, rfl, rfl, trivial⟩, inS, ⟨by show i + 1 ≤ _; omega, ?_⟩, by show _ - (i + 1) < _; omega⟩
    show OwnR lo ov' Fo' (bnds k (i + 1))
    rw [bnds_succ, show nd k i = _ from if_neg (by show ¬ 0 < lk k i + _; omega)]
    exact ho'
  · have e : i = k.sales.length := by omega
    subst e
    exact FnEnd.ret (F' := Fo ++ F) (vs := [_]) (by (first | refine ResF.tmp inW ?_ | refine ResF.cell rfl inF inP ?_); exact ResF.nil) inS ⟨Fo, ho, rfl⟩
end Go.Ax
