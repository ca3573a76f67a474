/-
  Contracts: by how much a meter is off, by the reference: all numbers of thousandths are tried.
-/
import Derived.Test.YtjcehnfhkgbpiaaXH4
namespace Go.Ax
set_option maxHeartbeats 4000000
set_option maxRecDepth 6000
set_option linter.unusedSimpArgs false
set_option linter.unusedVariables false
variable {lo : Nat} {F : Hp}
theorem dec_and {p q r : Prop} [Decidable p] [Decidable q] [Decidable r] (h : r ↔ p ∧ q) : decide r = (decide p && decide q) := by
  rw [Bool.eq_iff_iff]; simp [h]
theorem f36_in {cs : List (Int × Int)} {v : AV} {b2 b5 : Nat} {s : Int} {H : Hp} {B : FE} (hr : RowR H v cs) (hb : cs.any badCan = false) (hl : cs.length ≤ 20) (hs : -100 ≤ s ∧ s ≤ 100) :
    Ws tblW lo none (af36.body.loopAt 2) (upds B ((7, .bool true) :: (8, .bool true) :: (9, .int .i64 0) :: [(0, v), (2, .ptr (some (b2, 0))), (5, .ptr (some (b5, 0))), (6, .int .i64 s)])) H
      fun r E' G => r = .exit 4 ∧ Holds E' ((7, .bool (decide (s ≤ wlo cs cs.length))) :: (8, .bool (decide (whi cs cs.length ≤ s))) :: [(0, v), (2, .ptr (some (b2, 0))), (5, .ptr (some (b5, 0))), (6, .int .i64 s)]) ∧ G = H := by
  show Ws tblW lo none (.loop _) _ _ _
  refine Ws.shrink ?_
  refine Ws.loopG (X := Nat) (fun i => (7, .bool (decide (s ≤ wlo cs i))) :: (8, .bool (decide (whi cs i ≤ s))) :: (9, .int .i64 (i : Nat)) :: [(0, v), (2, .ptr (some (b2, 0))), (5, .ptr (some (b5, 0))), (6, .int .i64 s)]) (fun _ => H) (fun i => i ≤ cs.length) (fun i => cs.length - i) 0
    ⟨by rw [decide_eq_true (show s ≤ wlo cs 0 from hs.2)]; rfl, by rw [decide_eq_true (show whi cs 0 ≤ s from hs.1)]; rfl, rfl, rfl, rfl, rfl, rfl, trivial⟩ (List.Sublist.refl _) (Nat.zero_le _) ?_
  rintro i B2 hi
  by_cases hic : i < cs.length
  · have hc := no_bad hb hic
    have p1 := below_step (cs := cs) (i := i) (s := s) (by omega)
    have p2 := above_step (cs := cs) (i := i) (s := s) (by omega)
    have m1 : -(100 * 100000) ≤ s * (cs.getD i (0, 0)).2 ∧ s * (cs.getD i (0, 0)).2 ≤ 100 * 100000 := by
      constructor
      · have h1 : -100 * (cs.getD i (0, 0)).2 ≤ s * (cs.getD i (0, 0)).2 := Int.mul_le_mul_of_nonneg_right hs.1 (by omega)
        omega
      · have h1 : s * (cs.getD i (0, 0)).2 ≤ 100 * (cs.getD i (0, 0)).2 := Int.mul_le_mul_of_nonneg_right hs.2 (by omega)
        omega
    by_cases a1 : s ≤ wlo cs i <;> by_cases a2 : whi cs i ≤ s <;> by_cases a3 : s * (cs.getD i (0, 0)).2 ≤ 1000 * ((cs.getD i (0, 0)).1 - (cs.getD i (0, 0)).2) <;> by_cases a4 : 1000 * ((cs.getD i (0, 0)).1 - (cs.getD i (0, 0)).2) ≤ s * (cs.getD i (0, 0)).2 <;>
      (first | have a3' : 1000 * ((cs.getD i (0, 0)).1 - (cs.getD i (0, 0)).2) < s * (cs.getD i (0, 0)).2 := by omega | skip) <;>
      (first | have a4' : s * (cs.getD i (0, 0)).2 < 1000 * ((cs.getD i (0, 0)).1 - (cs.getD i (0, 0)).2) := by omega | skip) <;>
      (simp only [a1, a2, decide_true, decide_false]; (repeat' (first | (first | refine Wo.nil ?_ | refine Wd.nil ?_ | ((first | refine Wo.cons ?_ | refine Wd.cons ?_); (try refine W1.go rfl rfl ?_); ((first | refine k1 ?_ | refine k2 ?_ | refine W1.cA ?_ | (refine isDst 64 ?_; refine W1.lenR hr rfl ?_) | (refine isDst 70 ?_; refine W1.iaddrR hr rfl rfl hic (fun _ _ _ _ _ _ _ => ?_)) | (refine isDst 75 ?_; refine W1.iaddrR hr rfl rfl hic (fun _ _ _ _ _ _ _ => ?_)) | (refine isDst 85 ?_; refine W1.iaddrR hr rfl rfl hic (fun _ _ _ _ _ _ _ => ?_)) | (refine isDst 97 ?_; refine W1.iaddrR hr rfl rfl hic (fun _ _ _ _ _ _ _ => ?_)) | (refine isBinLss ?_; first | refine W1.lssT rfl rfl (by omega) ?_ | refine W1.lssF rfl rfl (by omega) ?_) | refine W1.auto ?_ | ((first | refine kA ?_ | refine kB ?_ | refine kC ?_ | refine kD ?_ | refine kE ?_ | refine kF ?_ | refine kG ?_); refine ⟨fun _ => ?_, fun _ => ?_⟩) | refine W1.alloc (fun _ _ => ?_) | refine W1.boxA rfl (fun _ _ => ?_) | refine kq (fun _ _ => ?_) | refine kp ?_ | (refine isIaddrs ?_; first | refine W1.iaddrI inI rfl rfl (by omega) (fun _ _ _ _ _ _ => ?_) | refine W1.iaddrR inR rfl rfl (by omega) (fun _ _ _ _ _ _ _ => ?_)) | (refine isBox ?_; refine W1.boxS inW (by rfl) (fun _ _ => ?_)) | (refine isBslice ?_; refine W1.bslice (fill_all inC rfl) (fun _ _ => ?_))) <;> (try refine ⟨fun _ => rfl, ?_⟩)))) | (first | refine Ws.seq ?_ | refine Ws.region ?_ | refine Ws.draw (fun bd hbd => ?_) | refine Ws.cond rfl ?_ | refine Ws.skip ?_ | refine Ws.scope ?_ | refine Ws.block ?_ | refine Ws.exit ?_ | refine Ws.ret ?_))); exact ⟨i + 1, ⟨by rw [dec_and p1]; simp only [a1, a3, decide_true, decide_false]; rfl, by rw [dec_and p2]; simp only [a2, a4, decide_true, decide_false]; rfl, rfl, rfl, rfl, rfl, rfl, trivial⟩, List.Sublist.refl _, hic, by show _ - (i + 1) < _ - i; omega⟩)
  · have e : i = cs.length := by omega
    subst e
    (repeat' (first | (first | refine Wo.nil ?_ | refine Wd.nil ?_ | ((first | refine Wo.cons ?_ | refine Wd.cons ?_); (try refine W1.go rfl rfl ?_); ((first | refine k1 ?_ | refine k2 ?_ | refine W1.cA ?_ | (refine isDst 64 ?_; refine W1.lenR hr rfl ?_) | (refine isDst 70 ?_; refine W1.iaddrR hr rfl rfl hic (fun _ _ _ _ _ _ _ => ?_)) | (refine isDst 75 ?_; refine W1.iaddrR hr rfl rfl hic (fun _ _ _ _ _ _ _ => ?_)) | (refine isDst 85 ?_; refine W1.iaddrR hr rfl rfl hic (fun _ _ _ _ _ _ _ => ?_)) | (refine isDst 97 ?_; refine W1.iaddrR hr rfl rfl hic (fun _ _ _ _ _ _ _ => ?_)) | (refine isBinLss ?_; first | refine W1.lssT rfl rfl (by omega) ?_ | refine W1.lssF rfl rfl (by omega) ?_) | refine W1.auto ?_ | ((first | refine kA ?_ | refine kB ?_ | refine kC ?_ | refine kD ?_ | refine kE ?_ | refine kF ?_ | refine kG ?_); refine ⟨fun _ => ?_, fun _ => ?_⟩) | refine W1.alloc (fun _ _ => ?_) | refine W1.boxA rfl (fun _ _ => ?_) | refine kq (fun _ _ => ?_) | refine kp ?_ | (refine isIaddrs ?_; first | refine W1.iaddrI inI rfl rfl (by omega) (fun _ _ _ _ _ _ => ?_) | refine W1.iaddrR inR rfl rfl (by omega) (fun _ _ _ _ _ _ _ => ?_)) | (refine isBox ?_; refine W1.boxS inW (by rfl) (fun _ _ => ?_)) | (refine isBslice ?_; refine W1.bslice (fill_all inC rfl) (fun _ _ => ?_))) <;> (try refine ⟨fun _ => rfl, ?_⟩)))) | (first | refine Ws.seq ?_ | refine Ws.region ?_ | refine Ws.draw (fun bd hbd => ?_) | refine Ws.cond rfl ?_ | refine Ws.skip ?_ | refine Ws.scope ?_ | refine Ws.block ?_ | refine Ws.exit ?_ | refine Ws.ret ?_)))
    exact ⟨_, List.Sublist.refl _, rfl, ⟨rfl, rfl, rfl, rfl, rfl, rfl, trivial⟩, rfl⟩
end Go.Ax
