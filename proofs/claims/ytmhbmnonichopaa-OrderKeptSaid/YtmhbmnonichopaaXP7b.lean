/-
  The law OrderKept: what it asks of three plans.
-/
import Derived.Test.YtmhbmnonichopaaXP7
import Derived.Test.YtmhbmnonichopaaXQ1
namespace Go.Ax
set_option maxHeartbeats 2000000
set_option maxRecDepth 6000
set_option linter.unusedSimpArgs false
set_option linter.unusedVariables false
variable {lo : Nat} {F : Hp}
theorem lvs_len (k : K) (q : List Int) (start : Int) (sales : List Int) (n : Nat) : (lvs k q start sales n).length = n := by simp [lvs]
theorem lvs_get {k : K} {q : List Int} {start : Int} {sales : List Int} {n d : Nat} (h : d < n) : (lvs k q start sales n).getD d 0 = lv k q start sales (d + 1) := by simp [lvs, List.getD, h]
/-- the litres of a good plan in a truth, in bounds -/
theorem lv_in {k : K} (hv : Vk k) {q : List Int} {start : Int} {sales : List Int} (ht : Truth k start sales) (hf : ∀ d, d < k.sales.length → lv k q start sales d + q.getD d 0 * k.load ≤ k.cap ∧ 0 ≤ lv k q start sales (d + 1)) : ∀ d, d ≤ k.sales.length → 0 ≤ lv k q start sales d ∧ lv k q start sales d ≤ k.cap
  | 0, _ => by have h1 := ht.lo; have h2 := ht.hi; have h3 := hv.slo; have h4 := hv.shi; rw [lv_zero]; omega
  | d + 1, hd => by
    have h1 := hf d hd
    have h2 := ht.day d hd
    have h3 := hv.sale d hd
    unfold saleOk at h2
    refine ⟨h1.2, ?_⟩
    rw [lv_succ]
    omega
attribute [local irreducible] lv lvs
theorem f7_days {k : K} {sv cv tv xv yv wv qv : AV} {q sales : List Int} {start : Int} {zl : List AV} {b4 zb i : Nat} {H : Hp} {B : FE} (hv : Vk k) (ht : Truth k start sales) (hm : (b4, .cells (kl k sv cv) true) ∈ H) (hz : (zb, .cells zl true) ∈ H) (hi3 : i < 3) (hcell : zl[0 + i * 1]? = some qv) (hq : RowI H qv q) (hql : q.length = k.sales.length) (hs : RowI H tv sales)
    (hl : RowI H wv (lvs k q start sales k.sales.length)) (hqd : ∀ d, d < k.sales.length → 0 ≤ q.getD d 0 ∧ q.getD d 0 ≤ k.most) (hf : ∀ d, d < k.sales.length → lv k q start sales d + q.getD d 0 * k.load ≤ k.cap ∧ 0 ≤ lv k q start sales (d + 1)) :
    Ws tblW lo none (af7.body.loopAt 2) (upds B ((25, .int .i64 start) :: (26, .int .i64 0) :: [(4, .ptr (some (b4, 0))), (12, .slc (some (zb, 0)) 3 3 true 1), (13, .int .i64 start), (14, tv), (15, xv), (16, yv), (20, .int .i64 (i : Nat)), (22, .int .i64 0), (23, wv)])) H fun r E' G => r = .exit 4 ∧ Holds E' [(4, .ptr (some (b4, 0))), (12, .slc (some (zb, 0)) 3 3 true 1), (13, .int .i64 start), (14, tv), (15, xv), (16, yv), (20, .int .i64 (i : Nat)), (22, .int .i64 0), (23, wv)] ∧ G = H := by
  show Ws tblW lo none (.loop _) _ _ _
  have h7 := hv.n2
  have hsl := ht.len
  have hll := lvs_len k q start sales k.sales.length
  have hin := lv_in hv ht hf
  have c2 := hv.cap2; have c4 := hv.load1; have c5 := hv.load2; have c6 := hv.most2
  refine Ws.shrink ?_
  refine Ws.loopG (X := Nat) (fun d => (25, .int .i64 (lv k q start sales d)) :: (26, .int .i64 (d : Nat)) :: [(4, .ptr (some (b4, 0))), (12, .slc (some (zb, 0)) 3 3 true 1), (13, .int .i64 start), (14, tv), (15, xv), (16, yv), (20, .int .i64 (i : Nat)), (22, .int .i64 0), (23, wv)]) (fun _ => H) (fun d => d ≤ k.sales.length) (fun d => k.sales.length - d) 0 ⟨by rw [lv_zero]; rfl, rfl, rfl, rfl, rfl, rfl, rfl, rfl, rfl, rfl, rfl, trivial⟩ (List.Sublist.refl _) (Nat.zero_le _) ?_
  intro d B2 hd
  by_cases hdn : d < k.sales.length
  · have f1 := hf d hdn
    have f2 := hin d hd
    have f3 := hqd d hdn
    have f4 := ht.day d hdn
    have f5 := hv.sale d hdn
    unfold saleOk at f4
    have m1 : 0 ≤ q.getD d 0 * k.load := Int.mul_nonneg f3.1 (by omega)
    have e1 : (lvs k q start sales k.sales.length).getD d 0 = lv k q start sales (d + 1) := lvs_get hdn
    have e2 := lv_succ k q start sales d
    have f6 : lv k q start sales d + q.getD d 0 * k.load ≤ k.cap := f1.1
    have f7 : lv k q start sales d + q.getD d 0 * k.load - sales.getD d 0 = (lvs k q start sales k.sales.length).getD d 0 := by rw [e1, e2]
    have f8 : 0 ≤ (lvs k q start sales k.sales.length).getD d 0 := by rw [e1]; exact f1.2
    (repeat' (first | (first | refine Wo.nil ?_ | refine Wd.nil ?_ | ((first | refine Wo.cons ?_ | refine Wd.cons ?_); (try refine W1.go rfl rfl ?_); ((first | refine k1 ?_ | refine k2 ?_ | refine W1.cA ?_ | (refine isDst 157 ?_; refine W1.lenI hl rfl ?_) | (refine isDst 164 ?_; refine W1.iaddrz i rfl rfl rfl hi3 ?_) | (refine isDst 165 ?_; refine W1.load1 rfl hz hcell ?_) | (refine isDst 167 ?_; refine W1.iaddrI hq rfl rfl (by omega) (fun _ _ _ _ _ _ => ?_)) | (refine isDst 170 ?_; refine W1.load1 rfl hm rfl ?_) | (refine isDst 175 ?_; refine W1.load1 rfl hm rfl ?_) | (refine isDst 181 ?_; refine W1.iaddrI hs rfl rfl (by omega) (fun _ _ _ _ _ _ => ?_)) | (refine isDst 186 ?_; refine W1.iaddrI hl rfl rfl (by omega) (fun _ _ _ _ _ _ => ?_)) | (refine isDst 193 ?_; refine W1.iaddrI hl rfl rfl (by omega) (fun _ _ _ _ _ _ => ?_)) | (refine isDst 199 ?_; refine W1.iaddrI hl rfl rfl (by omega) (fun _ _ _ _ _ _ => ?_)) | refine W1.cO ?_ | (refine isBinLss ?_; first | refine W1.lssT rfl rfl (by omega) ?_ | refine W1.lssF rfl rfl (by omega) ?_) | refine W1.auto ?_ | ((first | refine kA ?_ | refine kB ?_ | refine kC ?_ | refine kD ?_ | refine kE ?_ | refine kF ?_ | refine kG ?_); refine ⟨fun _ => ?_, fun _ => ?_⟩) | refine W1.alloc (fun _ _ => ?_) | refine W1.boxA rfl (fun _ _ => ?_) | refine kq (fun _ _ => ?_) | refine kp ?_ | (refine isIaddrs ?_; first | refine W1.iaddrI inI rfl rfl (by omega) (fun _ _ _ _ _ _ => ?_) | refine W1.iaddrR inR rfl rfl (by omega) (fun _ _ _ _ _ _ _ => ?_)) | (refine isBox ?_; refine W1.boxS inW (by rfl) (fun _ _ => ?_)) | (refine isBslice ?_; refine W1.bslice (fill_all inC rfl) (fun _ _ => ?_))) <;> (try (first | (with_reducible refine nC ?_) | refine ⟨fun _ => rfl, ?_⟩))))) | (first | refine Ws.seq ?_ | refine Ws.region ?_ | refine Ws.draw (fun bd hbd => ?_) | refine Ws.cond rfl ?_ | refine Ws.skip ?_ | refine Ws.scope ?_ | refine Ws.block ?_ | refine Ws.exit ?_ | refine Ws.ret ?_)))
    exact ⟨d + 1, ⟨by rw [← e1]; rfl, rfl, rfl, rfl, rfl, rfl, rfl, rfl, rfl, rfl, rfl, trivial⟩, List.Sublist.refl _, hdn, by show _ - (d + 1) < _ - d; omega⟩
  · (repeat' (first | (first | refine Wo.nil ?_ | refine Wd.nil ?_ | ((first | refine Wo.cons ?_ | refine Wd.cons ?_); (try refine W1.go rfl rfl ?_); ((first | refine k1 ?_ | refine k2 ?_ | refine W1.cA ?_ | (refine isDst 157 ?_; refine W1.lenI hl rfl ?_) | (refine isDst 164 ?_; refine W1.iaddrz i rfl rfl rfl hi3 ?_) | (refine isDst 165 ?_; refine W1.load1 rfl hz hcell ?_) | (refine isDst 167 ?_; refine W1.iaddrI hq rfl rfl (by omega) (fun _ _ _ _ _ _ => ?_)) | (refine isDst 170 ?_; refine W1.load1 rfl hm rfl ?_) | (refine isDst 175 ?_; refine W1.load1 rfl hm rfl ?_) | (refine isDst 181 ?_; refine W1.iaddrI hs rfl rfl (by omega) (fun _ _ _ _ _ _ => ?_)) | (refine isDst 186 ?_; refine W1.iaddrI hl rfl rfl (by omega) (fun _ _ _ _ _ _ => ?_)) | (refine isDst 193 ?_; refine W1.iaddrI hl rfl rfl (by omega) (fun _ _ _ _ _ _ => ?_)) | (refine isDst 199 ?_; refine W1.iaddrI hl rfl rfl (by omega) (fun _ _ _ _ _ _ => ?_)) | refine W1.cO ?_ | (refine isBinLss ?_; first | refine W1.lssT rfl rfl (by omega) ?_ | refine W1.lssF rfl rfl (by omega) ?_) | refine W1.auto ?_ | ((first | refine kA ?_ | refine kB ?_ | refine kC ?_ | refine kD ?_ | refine kE ?_ | refine kF ?_ | refine kG ?_); refine ⟨fun _ => ?_, fun _ => ?_⟩) | refine W1.alloc (fun _ _ => ?_) | refine W1.boxA rfl (fun _ _ => ?_) | refine kq (fun _ _ => ?_) | refine kp ?_ | (refine isIaddrs ?_; first | refine W1.iaddrI inI rfl rfl (by omega) (fun _ _ _ _ _ _ => ?_) | refine W1.iaddrR inR rfl rfl (by omega) (fun _ _ _ _ _ _ _ => ?_)) | (refine isBox ?_; refine W1.boxS inW (by rfl) (fun _ _ => ?_)) | (refine isBslice ?_; refine W1.bslice (fill_all inC rfl) (fun _ _ => ?_))) <;> (try (first | (with_reducible refine nC ?_) | refine ⟨fun _ => rfl, ?_⟩))))) | (first | refine Ws.seq ?_ | refine Ws.region ?_ | refine Ws.draw (fun bd hbd => ?_) | refine Ws.cond rfl ?_ | refine Ws.skip ?_ | refine Ws.scope ?_ | refine Ws.block ?_ | refine Ws.exit ?_ | refine Ws.ret ?_)))
    exact ⟨_, List.Sublist.refl _, rfl, ⟨rfl, rfl, rfl, rfl, rfl, rfl, rfl, rfl, rfl, trivial⟩, rfl⟩
end Go.Ax
