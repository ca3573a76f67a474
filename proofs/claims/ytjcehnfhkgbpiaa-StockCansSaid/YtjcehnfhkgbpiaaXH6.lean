/-
  Contracts: by how much a meter is off, by the reference: the loop over all thousandths, and the whole.
-/
import Derived.Test.YtjcehnfhkgbpiaaXH5
namespace Go.Ax
set_option maxHeartbeats 4000000
set_option maxRecDepth 6000
set_option linter.unusedSimpArgs false
set_option linter.unusedVariables false
variable {lo : Nat} {F : Hp}
/-- what was found ahead of a number of thousandths -/
def wst (W U s : Int) : Int × Int := (if -100 ≤ W ∧ -100 ≤ s - 1 then min (s - 1) W else -101, if U ≤ s - 1 then U else 101)
theorem f36_loop {cs : List (Int × Int)} {v : AV} {b2 b5 : Nat} {B : FE} (hr : RowR F v cs) (hb : cs.any badCan = false) (hl : cs.length ≤ 20) (h5 : lo ≤ b5) :
    Ws tblW lo none (af36.body.loopAt 1) (upds B ((6, .int .i64 (-100)) :: [(0, v), (2, .ptr (some (b2, 0))), (5, .ptr (some (b5, 0)))])) ((b5, .cells [.int .i64 (-101), .int .i64 101] true) :: ((b2, ABlk.cells [AV.int .i64 0, AV.int .i64 0] true) :: F))
      fun r E' G => r = .exit 2 ∧ Holds E' [(0, v), (2, .ptr (some (b2, 0))), (5, .ptr (some (b5, 0)))] ∧ G = (b5, .cells [.int .i64 (wst (wlo cs cs.length) (whi cs cs.length) 101).1, .int .i64 (wst (wlo cs cs.length) (whi cs cs.length) 101).2] true) :: ((b2, ABlk.cells [AV.int .i64 0, AV.int .i64 0] true) :: F) := by
  show Ws tblW lo none (.loop _) _ _ _
  refine Ws.shrink ?_
  have w1 := wlo_le cs cs.length
  have w2 := whi_ge cs cs.length
  have e0 : wst (wlo cs cs.length) (whi cs cs.length) (-100) = (-101, 101) := by unfold wst; rw [if_neg (by omega), if_neg (by omega)]
  refine Ws.loopG (X := Int) (fun s => (6, .int .i64 s) :: [(0, v), (2, .ptr (some (b2, 0))), (5, .ptr (some (b5, 0)))]) (fun s => (b5, .cells [.int .i64 (wst (wlo cs cs.length) (whi cs cs.length) s).1, .int .i64 (wst (wlo cs cs.length) (whi cs cs.length) s).2] true) :: ((b2, ABlk.cells [AV.int .i64 0, AV.int .i64 0] true) :: F)) (fun s => -100 ≤ s ∧ s ≤ 101) (fun s => (101 - s).toNat) (-100) ⟨rfl, rfl, rfl, rfl, trivial⟩ (by rw [e0]; exact List.Sublist.refl _) ⟨by omega, by omega⟩ ?_
  rintro s B2 ⟨hs0, hs1⟩
  by_cases hlt : s ≤ 100
  · have hr' : RowR ((b5, .cells [.int .i64 (wst (wlo cs cs.length) (whi cs cs.length) s).1, .int .i64 (wst (wlo cs cs.length) (whi cs cs.length) s).2] true) :: ((b2, ABlk.cells [AV.int .i64 0, AV.int .i64 0] true) :: F)) v cs := hr.cons.cons
    (repeat' (first | (first | refine Wo.nil ?_ | refine Wd.nil ?_ | ((first | refine Wo.cons ?_ | refine Wd.cons ?_); (try refine W1.go rfl rfl ?_); ((first | refine k1 ?_ | refine k2 ?_ | refine W1.cO ?_ | refine W1.auto ?_ | ((first | refine kA ?_ | refine kB ?_ | refine kC ?_ | refine kD ?_ | refine kE ?_ | refine kF ?_ | refine kG ?_); refine ⟨fun _ => ?_, fun _ => ?_⟩) | refine W1.alloc (fun _ _ => ?_) | refine W1.boxA rfl (fun _ _ => ?_) | refine kq (fun _ _ => ?_) | refine kp ?_ | (refine isIaddrs ?_; first | refine W1.iaddrI inI rfl rfl (by omega) (fun _ _ _ _ _ _ => ?_) | refine W1.iaddrR inR rfl rfl (by omega) (fun _ _ _ _ _ _ _ => ?_)) | (refine isBox ?_; refine W1.boxS inW (by rfl) (fun _ _ => ?_)) | (refine isBslice ?_; refine W1.bslice (fill_all inC rfl) (fun _ _ => ?_))) <;> (try refine ⟨fun _ => rfl, ?_⟩)))) | (first | refine Ws.seq ?_ | refine Ws.region ?_ | refine Ws.draw (fun bd hbd => ?_) | refine Ws.cond rfl ?_ | refine Ws.skip ?_ | refine Ws.scope ?_ | refine Ws.block ?_ | refine Ws.exit ?_ | refine Ws.ret ?_)))
    refine Ws.fresh (l := (7, .bool true) :: (8, .bool true) :: (9, .int .i64 0) :: [(0, v), (2, .ptr (some (b2, 0))), (5, .ptr (some (b5, 0))), (6, .int .i64 s)]) ⟨rfl, rfl, rfl, rfl, rfl, rfl, rfl, trivial⟩ (fun B3 => ?_)
    refine (f36_in hr' hb hl ⟨hs0, hlt⟩).mono ?_
    rintro r E' G ⟨rfl, hE', rfl⟩
    refine Ws.fresh hE' (fun B4 => ?_)
    generalize wlo cs cs.length = W at *
    generalize whi cs cs.length = U at *
    by_cases a1 : s ≤ W
    · by_cases a2 : U ≤ s
      · by_cases a3 : U ≤ s - 1
        · have e1 : wst W U s = ((wst W U s).1, U) := by unfold wst; rw [if_pos a3]
          have e2 : wst W U (s + 1) = (s, U) := by unfold wst; rw [if_pos (by omega), if_pos (by omega)]; congr 1; omega
          rw [e1]
          simp only [a1, a2, decide_true]
          (repeat' (first | (first | refine Wo.nil ?_ | refine Wd.nil ?_ | ((first | refine Wo.cons ?_ | refine Wd.cons ?_); (try refine W1.go rfl rfl ?_); ((first | refine k1 ?_ | refine k2 ?_ | refine W1.cO ?_ | refine W1.auto ?_ | ((first | refine kA ?_ | refine kB ?_ | refine kC ?_ | refine kD ?_ | refine kE ?_ | refine kF ?_ | refine kG ?_); refine ⟨fun _ => ?_, fun _ => ?_⟩) | refine W1.alloc (fun _ _ => ?_) | refine W1.boxA rfl (fun _ _ => ?_) | refine kq (fun _ _ => ?_) | refine kp ?_ | (refine isIaddrs ?_; first | refine W1.iaddrI inI rfl rfl (by omega) (fun _ _ _ _ _ _ => ?_) | refine W1.iaddrR inR rfl rfl (by omega) (fun _ _ _ _ _ _ _ => ?_)) | (refine isBox ?_; refine W1.boxS inW (by rfl) (fun _ _ => ?_)) | (refine isBslice ?_; refine W1.bslice (fill_all inC rfl) (fun _ _ => ?_))) <;> (try refine ⟨fun _ => rfl, ?_⟩)))) | (first | refine Ws.seq ?_ | refine Ws.region ?_ | refine Ws.draw (fun bd hbd => ?_) | refine Ws.cond rfl ?_ | refine Ws.skip ?_ | refine Ws.scope ?_ | refine Ws.block ?_ | refine Ws.exit ?_ | refine Ws.ret ?_)))
          exact ⟨s + 1, ⟨rfl, rfl, rfl, rfl, trivial⟩, by rw [e2]; exact List.Sublist.refl _, ⟨by omega, by omega⟩, by omega⟩
        · have e1 : wst W U s = ((wst W U s).1, 101) := by unfold wst; rw [if_neg a3]
          have e2 : wst W U (s + 1) = (s, s) := by unfold wst; rw [if_pos (by omega), if_pos (by omega)]; congr 1 <;> omega
          rw [e1]
          simp only [a1, a2, decide_true]
          (repeat' (first | (first | refine Wo.nil ?_ | refine Wd.nil ?_ | ((first | refine Wo.cons ?_ | refine Wd.cons ?_); (try refine W1.go rfl rfl ?_); ((first | refine k1 ?_ | refine k2 ?_ | refine W1.cO ?_ | refine W1.auto ?_ | ((first | refine kA ?_ | refine kB ?_ | refine kC ?_ | refine kD ?_ | refine kE ?_ | refine kF ?_ | refine kG ?_); refine ⟨fun _ => ?_, fun _ => ?_⟩) | refine W1.alloc (fun _ _ => ?_) | refine W1.boxA rfl (fun _ _ => ?_) | refine kq (fun _ _ => ?_) | refine kp ?_ | (refine isIaddrs ?_; first | refine W1.iaddrI inI rfl rfl (by omega) (fun _ _ _ _ _ _ => ?_) | refine W1.iaddrR inR rfl rfl (by omega) (fun _ _ _ _ _ _ _ => ?_)) | (refine isBox ?_; refine W1.boxS inW (by rfl) (fun _ _ => ?_)) | (refine isBslice ?_; refine W1.bslice (fill_all inC rfl) (fun _ _ => ?_))) <;> (try refine ⟨fun _ => rfl, ?_⟩)))) | (first | refine Ws.seq ?_ | refine Ws.region ?_ | refine Ws.draw (fun bd hbd => ?_) | refine Ws.cond rfl ?_ | refine Ws.skip ?_ | refine Ws.scope ?_ | refine Ws.block ?_ | refine Ws.exit ?_ | refine Ws.ret ?_)))
          exact ⟨s + 1, ⟨rfl, rfl, rfl, rfl, trivial⟩, by rw [e2]; exact List.Sublist.refl _, ⟨by omega, by omega⟩, by omega⟩
      · have e1 : wst W U s = ((wst W U s).1, 101) := by unfold wst; rw [if_neg (show ¬ U ≤ s - 1 by omega)]
        have e2 : wst W U (s + 1) = (s, 101) := by unfold wst; rw [if_pos (by omega), if_neg (by omega)]; congr 1; omega
        rw [e1]
        simp only [a1, a2, decide_true, decide_false]
        (repeat' (first | (first | refine Wo.nil ?_ | refine Wd.nil ?_ | ((first | refine Wo.cons ?_ | refine Wd.cons ?_); (try refine W1.go rfl rfl ?_); ((first | refine k1 ?_ | refine k2 ?_ | refine W1.cO ?_ | refine W1.auto ?_ | ((first | refine kA ?_ | refine kB ?_ | refine kC ?_ | refine kD ?_ | refine kE ?_ | refine kF ?_ | refine kG ?_); refine ⟨fun _ => ?_, fun _ => ?_⟩) | refine W1.alloc (fun _ _ => ?_) | refine W1.boxA rfl (fun _ _ => ?_) | refine kq (fun _ _ => ?_) | refine kp ?_ | (refine isIaddrs ?_; first | refine W1.iaddrI inI rfl rfl (by omega) (fun _ _ _ _ _ _ => ?_) | refine W1.iaddrR inR rfl rfl (by omega) (fun _ _ _ _ _ _ _ => ?_)) | (refine isBox ?_; refine W1.boxS inW (by rfl) (fun _ _ => ?_)) | (refine isBslice ?_; refine W1.bslice (fill_all inC rfl) (fun _ _ => ?_))) <;> (try refine ⟨fun _ => rfl, ?_⟩)))) | (first | refine Ws.seq ?_ | refine Ws.region ?_ | refine Ws.draw (fun bd hbd => ?_) | refine Ws.cond rfl ?_ | refine Ws.skip ?_ | refine Ws.scope ?_ | refine Ws.block ?_ | refine Ws.exit ?_ | refine Ws.ret ?_)))
        exact ⟨s + 1, ⟨rfl, rfl, rfl, rfl, trivial⟩, by rw [e2]; exact List.Sublist.refl _, ⟨by omega, by omega⟩, by omega⟩
    · have e3 : (wst W U (s + 1)).1 = (wst W U s).1 := by
        show (if -100 ≤ W ∧ -100 ≤ s + 1 - 1 then min (s + 1 - 1) W else -101) = (if -100 ≤ W ∧ -100 ≤ s - 1 then min (s - 1) W else -101)
        by_cases h : -100 ≤ W
        · rw [if_pos (by omega), if_pos (by omega)]; omega
        · rw [if_neg (by omega), if_neg (by omega)]
      by_cases a2 : U ≤ s
      · by_cases a3 : U ≤ s - 1
        · have e1 : wst W U s = ((wst W U s).1, U) := by unfold wst; rw [if_pos a3]
          have e2 : wst W U (s + 1) = ((wst W U s).1, U) := by rw [← e3]; unfold wst; rw [if_pos (show U ≤ s + 1 - 1 by omega)]
          generalize (wst W U s).1 = w at e1 e2
          rw [e1]
          simp only [a1, a2, decide_true, decide_false]
          (repeat' (first | (first | refine Wo.nil ?_ | refine Wd.nil ?_ | ((first | refine Wo.cons ?_ | refine Wd.cons ?_); (try refine W1.go rfl rfl ?_); ((first | refine k1 ?_ | refine k2 ?_ | refine W1.cO ?_ | refine W1.auto ?_ | ((first | refine kA ?_ | refine kB ?_ | refine kC ?_ | refine kD ?_ | refine kE ?_ | refine kF ?_ | refine kG ?_); refine ⟨fun _ => ?_, fun _ => ?_⟩) | refine W1.alloc (fun _ _ => ?_) | refine W1.boxA rfl (fun _ _ => ?_) | refine kq (fun _ _ => ?_) | refine kp ?_ | (refine isIaddrs ?_; first | refine W1.iaddrI inI rfl rfl (by omega) (fun _ _ _ _ _ _ => ?_) | refine W1.iaddrR inR rfl rfl (by omega) (fun _ _ _ _ _ _ _ => ?_)) | (refine isBox ?_; refine W1.boxS inW (by rfl) (fun _ _ => ?_)) | (refine isBslice ?_; refine W1.bslice (fill_all inC rfl) (fun _ _ => ?_))) <;> (try refine ⟨fun _ => rfl, ?_⟩)))) | (first | refine Ws.seq ?_ | refine Ws.region ?_ | refine Ws.draw (fun bd hbd => ?_) | refine Ws.cond rfl ?_ | refine Ws.skip ?_ | refine Ws.scope ?_ | refine Ws.block ?_ | refine Ws.exit ?_ | refine Ws.ret ?_)))
          exact ⟨s + 1, ⟨rfl, rfl, rfl, rfl, trivial⟩, by rw [e2]; exact List.Sublist.refl _, ⟨by omega, by omega⟩, by omega⟩
        · have e1 : wst W U s = ((wst W U s).1, 101) := by unfold wst; rw [if_neg a3]
          have e2 : wst W U (s + 1) = ((wst W U s).1, s) := by
            have : U = s := by omega
            rw [← e3]; unfold wst; rw [if_pos (show U ≤ s + 1 - 1 by omega), this]
          generalize (wst W U s).1 = w at e1 e2
          rw [e1]
          simp only [a1, a2, decide_true, decide_false]
          (repeat' (first | (first | refine Wo.nil ?_ | refine Wd.nil ?_ | ((first | refine Wo.cons ?_ | refine Wd.cons ?_); (try refine W1.go rfl rfl ?_); ((first | refine k1 ?_ | refine k2 ?_ | refine W1.cO ?_ | refine W1.auto ?_ | ((first | refine kA ?_ | refine kB ?_ | refine kC ?_ | refine kD ?_ | refine kE ?_ | refine kF ?_ | refine kG ?_); refine ⟨fun _ => ?_, fun _ => ?_⟩) | refine W1.alloc (fun _ _ => ?_) | refine W1.boxA rfl (fun _ _ => ?_) | refine kq (fun _ _ => ?_) | refine kp ?_ | (refine isIaddrs ?_; first | refine W1.iaddrI inI rfl rfl (by omega) (fun _ _ _ _ _ _ => ?_) | refine W1.iaddrR inR rfl rfl (by omega) (fun _ _ _ _ _ _ _ => ?_)) | (refine isBox ?_; refine W1.boxS inW (by rfl) (fun _ _ => ?_)) | (refine isBslice ?_; refine W1.bslice (fill_all inC rfl) (fun _ _ => ?_))) <;> (try refine ⟨fun _ => rfl, ?_⟩)))) | (first | refine Ws.seq ?_ | refine Ws.region ?_ | refine Ws.draw (fun bd hbd => ?_) | refine Ws.cond rfl ?_ | refine Ws.skip ?_ | refine Ws.scope ?_ | refine Ws.block ?_ | refine Ws.exit ?_ | refine Ws.ret ?_)))
          exact ⟨s + 1, ⟨rfl, rfl, rfl, rfl, trivial⟩, by rw [e2]; exact List.Sublist.refl _, ⟨by omega, by omega⟩, by omega⟩
      · have e1 : wst W U s = ((wst W U s).1, 101) := by unfold wst; rw [if_neg (show ¬ U ≤ s - 1 by omega)]
        have e2 : wst W U (s + 1) = ((wst W U s).1, 101) := by rw [← e3]; unfold wst; rw [if_neg (show ¬ U ≤ s + 1 - 1 by omega)]
        generalize (wst W U s).1 = w at e1 e2
        rw [e1]
        simp only [a1, a2, decide_true, decide_false]
        (repeat' (first | (first | refine Wo.nil ?_ | refine Wd.nil ?_ | ((first | refine Wo.cons ?_ | refine Wd.cons ?_); (try refine W1.go rfl rfl ?_); ((first | refine k1 ?_ | refine k2 ?_ | refine W1.cO ?_ | refine W1.auto ?_ | ((first | refine kA ?_ | refine kB ?_ | refine kC ?_ | refine kD ?_ | refine kE ?_ | refine kF ?_ | refine kG ?_); refine ⟨fun _ => ?_, fun _ => ?_⟩) | refine W1.alloc (fun _ _ => ?_) | refine W1.boxA rfl (fun _ _ => ?_) | refine kq (fun _ _ => ?_) | refine kp ?_ | (refine isIaddrs ?_; first | refine W1.iaddrI inI rfl rfl (by omega) (fun _ _ _ _ _ _ => ?_) | refine W1.iaddrR inR rfl rfl (by omega) (fun _ _ _ _ _ _ _ => ?_)) | (refine isBox ?_; refine W1.boxS inW (by rfl) (fun _ _ => ?_)) | (refine isBslice ?_; refine W1.bslice (fill_all inC rfl) (fun _ _ => ?_))) <;> (try refine ⟨fun _ => rfl, ?_⟩)))) | (first | refine Ws.seq ?_ | refine Ws.region ?_ | refine Ws.draw (fun bd hbd => ?_) | refine Ws.cond rfl ?_ | refine Ws.skip ?_ | refine Ws.scope ?_ | refine Ws.block ?_ | refine Ws.exit ?_ | refine Ws.ret ?_)))
        exact ⟨s + 1, ⟨rfl, rfl, rfl, rfl, trivial⟩, by rw [e2]; exact List.Sublist.refl _, ⟨by omega, by omega⟩, by omega⟩
  · have : s = 101 := by omega
    subst this
    (repeat' (first | (first | refine Wo.nil ?_ | refine Wd.nil ?_ | ((first | refine Wo.cons ?_ | refine Wd.cons ?_); (try refine W1.go rfl rfl ?_); ((first | refine k1 ?_ | refine k2 ?_ | refine W1.cO ?_ | refine W1.auto ?_ | ((first | refine kA ?_ | refine kB ?_ | refine kC ?_ | refine kD ?_ | refine kE ?_ | refine kF ?_ | refine kG ?_); refine ⟨fun _ => ?_, fun _ => ?_⟩) | refine W1.alloc (fun _ _ => ?_) | refine W1.boxA rfl (fun _ _ => ?_) | refine kq (fun _ _ => ?_) | refine kp ?_ | (refine isIaddrs ?_; first | refine W1.iaddrI inI rfl rfl (by omega) (fun _ _ _ _ _ _ => ?_) | refine W1.iaddrR inR rfl rfl (by omega) (fun _ _ _ _ _ _ _ => ?_)) | (refine isBox ?_; refine W1.boxS inW (by rfl) (fun _ _ => ?_)) | (refine isBslice ?_; refine W1.bslice (fill_all inC rfl) (fun _ _ => ?_))) <;> (try refine ⟨fun _ => rfl, ?_⟩)))) | (first | refine Ws.seq ?_ | refine Ws.region ?_ | refine Ws.draw (fun bd hbd => ?_) | refine Ws.cond rfl ?_ | refine Ws.skip ?_ | refine Ws.scope ?_ | refine Ws.block ?_ | refine Ws.exit ?_ | refine Ws.ret ?_)))
    exact ⟨_, List.Sublist.refl _, rfl, ⟨rfl, rfl, rfl, trivial⟩, rfl⟩
end Go.Ax
