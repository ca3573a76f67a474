/-
  Contracts: by how much a meter is off, by the reference (the whole); the law StockMeters.
-/
import Derived.Test.YtjcehnfhkgbpiaaXH6
namespace Go.Ax
set_option maxHeartbeats 4000000
set_option maxRecDepth 6000
set_option linter.unusedSimpArgs false
set_option linter.unusedVariables false
variable {lo : Nat} {F : Hp}
theorem any_no {cs : List (Int × Int)} (h : ∀ j, j < cs.length → badCan (cs.getD j (0, 0)) = false) : cs.any badCan = false := by
  rw [List.any_eq_false]
  intro c hc
  obtain ⟨j, hj, rfl⟩ := List.mem_iff_getElem.1 hc
  have := h j hj
  rw [show cs.getD j (0, 0) = cs[j] by simp [List.getD, List.getElem?_eq_getElem hj]] at this
  rw [this]; simp
theorem bad_f {c : Int × Int} (h : 0 ≤ c.1 ∧ c.1 ≤ 100000 ∧ 1 ≤ c.2 ∧ c.2 ≤ 100000) : badCan c = false := decide_eq_false (by omega)
theorem f36_ok {cs : List (Int × Int)} {v : AV} (hr : RowR F v cs) (hl : cs.length ≤ 9223372036854775807) : Pure tblW (fnv 36) [v] F (rv (wornR cs)) := by
  intro lo
  refine Fn.func (fn := af36) rfl rfl ?_
  by_cases h0 : cs.length < 1
  · have e1 : wornR cs = ((0, 0), 6) := by unfold wornR; rw [if_pos (.inl h0)]
    rw [e1]
    (repeat' (first | (first | refine Wo.nil ?_ | refine Wd.nil ?_ | ((first | refine Wo.cons ?_ | refine Wd.cons ?_); (try refine W1.go rfl rfl ?_); ((first | refine k1 ?_ | refine k2 ?_ | (refine isDst 2 ?_; refine W1.alloc (fun b2 hb2 => ?_)) | (refine isDst 5 ?_; refine W1.alloc (fun b5 hb5 => ?_)) | (refine isDst 12 ?_; refine W1.lenR hr.cons rfl ?_) | (refine isDst 15 ?_; refine W1.lenR hr.cons rfl ?_) | (refine isDst 16 ?_; refine W1.lenR hr.cons rfl ?_) | refine W1.cO ?_ | refine W1.auto ?_ | ((first | refine kA ?_ | refine kB ?_ | refine kC ?_ | refine kD ?_ | refine kE ?_ | refine kF ?_ | refine kG ?_); refine ⟨fun _ => ?_, fun _ => ?_⟩) | refine W1.alloc (fun _ _ => ?_) | refine W1.boxA rfl (fun _ _ => ?_) | refine kq (fun _ _ => ?_) | refine kp ?_ | (refine isIaddrs ?_; first | refine W1.iaddrI inI rfl rfl (by omega) (fun _ _ _ _ _ _ => ?_) | refine W1.iaddrR inR rfl rfl (by omega) (fun _ _ _ _ _ _ _ => ?_)) | (refine isBox ?_; refine W1.boxS inW (by rfl) (fun _ _ => ?_)) | (refine isBslice ?_; refine W1.bslice (fill_all inC rfl) (fun _ _ => ?_))) <;> (try refine ⟨fun _ => rfl, ?_⟩)))) | (first | refine Ws.seq ?_ | refine Ws.region ?_ | refine Ws.draw (fun bd hbd => ?_) | refine Ws.cond rfl ?_ | refine Ws.skip ?_ | refine Ws.scope ?_ | refine Ws.block ?_ | refine Ws.exit ?_ | refine Ws.ret ?_)))
    (refine FnEnd.ret (F' := F) (vs := [_, _]) (by (first | refine ResF.tmp inW ?_ | refine ResF.cell rfl inF inP ?_); (first | refine ResF.tmp inW ?_ | refine ResF.cell rfl inF inP ?_); exact ResF.nil) inS ⟨?_, rfl⟩)
    rfl
  by_cases h20 : 20 < cs.length
  · have e1 : wornR cs = ((0, 0), 6) := by unfold wornR; rw [if_pos (.inr h20)]
    rw [e1]
    (repeat' (first | (first | refine Wo.nil ?_ | refine Wd.nil ?_ | ((first | refine Wo.cons ?_ | refine Wd.cons ?_); (try refine W1.go rfl rfl ?_); ((first | refine k1 ?_ | refine k2 ?_ | (refine isDst 2 ?_; refine W1.alloc (fun b2 hb2 => ?_)) | (refine isDst 5 ?_; refine W1.alloc (fun b5 hb5 => ?_)) | (refine isDst 12 ?_; refine W1.lenR hr.cons rfl ?_) | (refine isDst 15 ?_; refine W1.lenR hr.cons rfl ?_) | (refine isDst 16 ?_; refine W1.lenR hr.cons rfl ?_) | refine W1.cO ?_ | refine W1.auto ?_ | ((first | refine kA ?_ | refine kB ?_ | refine kC ?_ | refine kD ?_ | refine kE ?_ | refine kF ?_ | refine kG ?_); refine ⟨fun _ => ?_, fun _ => ?_⟩) | refine W1.alloc (fun _ _ => ?_) | refine W1.boxA rfl (fun _ _ => ?_) | refine kq (fun _ _ => ?_) | refine kp ?_ | (refine isIaddrs ?_; first | refine W1.iaddrI inI rfl rfl (by omega) (fun _ _ _ _ _ _ => ?_) | refine W1.iaddrR inR rfl rfl (by omega) (fun _ _ _ _ _ _ _ => ?_)) | (refine isBox ?_; refine W1.boxS inW (by rfl) (fun _ _ => ?_)) | (refine isBslice ?_; refine W1.bslice (fill_all inC rfl) (fun _ _ => ?_))) <;> (try refine ⟨fun _ => rfl, ?_⟩)))) | (first | refine Ws.seq ?_ | refine Ws.region ?_ | refine Ws.draw (fun bd hbd => ?_) | refine Ws.cond rfl ?_ | refine Ws.skip ?_ | refine Ws.scope ?_ | refine Ws.block ?_ | refine Ws.exit ?_ | refine Ws.ret ?_)))
    (refine FnEnd.ret (F' := F) (vs := [_, _]) (by (first | refine ResF.tmp inW ?_ | refine ResF.cell rfl inF inP ?_); (first | refine ResF.tmp inW ?_ | refine ResF.cell rfl inF inP ?_); exact ResF.nil) inS ⟨?_, rfl⟩)
    rfl
  (repeat' (first | (first | refine Wo.nil ?_ | refine Wd.nil ?_ | ((first | refine Wo.cons ?_ | refine Wd.cons ?_); (try refine W1.go rfl rfl ?_); ((first | refine k1 ?_ | refine k2 ?_ | (refine isDst 2 ?_; refine W1.alloc (fun b2 hb2 => ?_)) | (refine isDst 5 ?_; refine W1.alloc (fun b5 hb5 => ?_)) | (refine isDst 12 ?_; refine W1.lenR hr.cons rfl ?_) | (refine isDst 15 ?_; refine W1.lenR hr.cons rfl ?_) | (refine isDst 16 ?_; refine W1.lenR hr.cons rfl ?_) | refine W1.cO ?_ | refine W1.auto ?_ | ((first | refine kA ?_ | refine kB ?_ | refine kC ?_ | refine kD ?_ | refine kE ?_ | refine kF ?_ | refine kG ?_); refine ⟨fun _ => ?_, fun _ => ?_⟩) | refine W1.alloc (fun _ _ => ?_) | refine W1.boxA rfl (fun _ _ => ?_) | refine kq (fun _ _ => ?_) | refine kp ?_ | (refine isIaddrs ?_; first | refine W1.iaddrI inI rfl rfl (by omega) (fun _ _ _ _ _ _ => ?_) | refine W1.iaddrR inR rfl rfl (by omega) (fun _ _ _ _ _ _ _ => ?_)) | (refine isBox ?_; refine W1.boxS inW (by rfl) (fun _ _ => ?_)) | (refine isBslice ?_; refine W1.bslice (fill_all inC rfl) (fun _ _ => ?_))) <;> (try refine ⟨fun _ => rfl, ?_⟩)))) | (first | refine Ws.seq ?_ | refine Ws.region ?_ | refine Ws.draw (fun bd hbd => ?_) | refine Ws.cond rfl ?_ | refine Ws.skip ?_ | refine Ws.scope ?_ | refine Ws.block ?_ | refine Ws.exit ?_ | refine Ws.ret ?_)))
  have hr' : RowR ((b2, ABlk.cells [AV.int .i64 0, AV.int .i64 0] true) :: F) v cs := hr.cons
  cases hb : cs.any badCan with
  | true =>
    have e1 : wornR cs = ((0, 0), 3) := by unfold wornR; rw [if_neg (by omega), if_pos hb]
    rw [e1]
    refine Ws.fresh (l := (4, .int .i64 0) :: [(0, v), (2, .ptr (some (b2, 0)))]) ⟨rfl, rfl, rfl, trivial⟩ (fun B => ?_)
    refine Ws.loopG (X := Nat) (fun i => (4, .int .i64 (i : Nat)) :: [(0, v), (2, .ptr (some (b2, 0)))]) (fun _ => ((b2, ABlk.cells [AV.int .i64 0, AV.int .i64 0] true) :: F)) (fun i => i ≤ cs.length ∧ ∀ j, j < i → badCan (cs.getD j (0, 0)) = false) (fun i => cs.length - i) 0 ⟨rfl, rfl, rfl, trivial⟩ (List.Sublist.refl _) ⟨Nat.zero_le _, fun j hj => absurd hj (Nat.not_lt_zero j)⟩ ?_
    rintro i B2 ⟨hi, hall⟩
    by_cases hic : i < cs.length
    · (repeat' (first | (first | refine Wo.nil ?_ | refine Wd.nil ?_ | ((first | refine Wo.cons ?_ | refine Wd.cons ?_); (try refine W1.go rfl rfl ?_); ((first | refine k1 ?_ | refine k2 ?_ | (refine isDst 28 ?_; refine W1.iaddrR hr' rfl rfl hic (fun _ _ _ _ _ _ _ => ?_)) | (refine isDst 35 ?_; refine W1.iaddrR hr' rfl rfl hic (fun _ _ _ _ _ _ _ => ?_)) | (refine isDst 43 ?_; refine W1.iaddrR hr' rfl rfl hic (fun _ _ _ _ _ _ _ => ?_)) | (refine isDst 51 ?_; refine W1.iaddrR hr' rfl rfl hic (fun _ _ _ _ _ _ _ => ?_)) | (refine isDst 22 ?_; refine W1.lenR hr' rfl ?_) | (refine isBinLss ?_; refine W1.lssT rfl rfl (show ((i : Nat) : Int) < (cs.length : Nat) by omega) ?_) | refine W1.auto ?_ | ((first | refine kA ?_ | refine kB ?_ | refine kC ?_ | refine kD ?_ | refine kE ?_ | refine kF ?_ | refine kG ?_); refine ⟨fun _ => ?_, fun _ => ?_⟩) | refine W1.alloc (fun _ _ => ?_) | refine W1.boxA rfl (fun _ _ => ?_) | refine kq (fun _ _ => ?_) | refine kp ?_ | (refine isIaddrs ?_; first | refine W1.iaddrI inI rfl rfl (by omega) (fun _ _ _ _ _ _ => ?_) | refine W1.iaddrR inR rfl rfl (by omega) (fun _ _ _ _ _ _ _ => ?_)) | (refine isBox ?_; refine W1.boxS inW (by rfl) (fun _ _ => ?_)) | (refine isBslice ?_; refine W1.bslice (fill_all inC rfl) (fun _ _ => ?_))) <;> (try refine ⟨fun _ => rfl, ?_⟩)))) | (first | refine Ws.seq ?_ | refine Ws.region ?_ | refine Ws.draw (fun bd hbd => ?_) | refine Ws.cond rfl ?_ | refine Ws.skip ?_ | refine Ws.scope ?_ | refine Ws.block ?_ | refine Ws.exit ?_ | refine Ws.ret ?_)))
      · (refine FnEnd.ret (F' := F) (vs := [_, _]) (by (first | refine ResF.tmp inW ?_ | refine ResF.cell rfl inF inP ?_); (first | refine ResF.tmp inW ?_ | refine ResF.cell rfl inF inP ?_); exact ResF.nil) inS ⟨?_, rfl⟩)
        rfl
      · (refine FnEnd.ret (F' := F) (vs := [_, _]) (by (first | refine ResF.tmp inW ?_ | refine ResF.cell rfl inF inP ?_); (first | refine ResF.tmp inW ?_ | refine ResF.cell rfl inF inP ?_); exact ResF.nil) inS ⟨?_, rfl⟩)
        rfl
      · (refine FnEnd.ret (F' := F) (vs := [_, _]) (by (first | refine ResF.tmp inW ?_ | refine ResF.cell rfl inF inP ?_); (first | refine ResF.tmp inW ?_ | refine ResF.cell rfl inF inP ?_); exact ResF.nil) inS ⟨?_, rfl⟩)
        rfl
      · (refine FnEnd.ret (F' := F) (vs := [_, _]) (by (first | refine ResF.tmp inW ?_ | refine ResF.cell rfl inF inP ?_); (first | refine ResF.tmp inW ?_ | refine ResF.cell rfl inF inP ?_); exact ResF.nil) inS ⟨?_, rfl⟩)
        rfl
      · refine ⟨i + 1, ⟨rfl, rfl, rfl, trivial⟩, List.Sublist.refl _, ⟨hic, fun j hj => ?_⟩, by show _ - (i + 1) < _ - i; omega⟩
        rcases Nat.lt_succ_iff_lt_or_eq.1 hj with hj | rfl
        · exact hall j hj
        · exact bad_f (by omega)
    · rw [any_no fun j hj => hall j (by omega)] at hb
      cases hb
  | false =>
    have e1 : wornR cs = if -100 ≤ wlo cs cs.length ∧ whi cs cs.length ≤ 100 then ((wlo cs cs.length, whi cs cs.length), 0) else ((0, 0), 2) := by
      unfold wornR; rw [if_neg (by omega), if_neg (by rw [hb]; simp)]
    have w1 := wlo_le cs cs.length
    have w2 := whi_ge cs cs.length
    refine Ws.fresh (l := (4, .int .i64 0) :: [(0, v), (2, .ptr (some (b2, 0)))]) ⟨rfl, rfl, rfl, trivial⟩ (fun B => ?_)
    refine Ws.loopG (X := Nat) (fun i => (4, .int .i64 (i : Nat)) :: [(0, v), (2, .ptr (some (b2, 0)))]) (fun _ => ((b2, ABlk.cells [AV.int .i64 0, AV.int .i64 0] true) :: F)) (fun i => i ≤ cs.length) (fun i => cs.length - i) 0 ⟨rfl, rfl, rfl, trivial⟩ (List.Sublist.refl _) (Nat.zero_le _) ?_
    rintro i B2 hi
    by_cases hic : i < cs.length
    · have hc := no_bad hb hic
      (repeat' (first | (first | refine Wo.nil ?_ | refine Wd.nil ?_ | ((first | refine Wo.cons ?_ | refine Wd.cons ?_); (try refine W1.go rfl rfl ?_); ((first | refine k1 ?_ | refine k2 ?_ | (refine isDst 28 ?_; refine W1.iaddrR hr' rfl rfl hic (fun _ _ _ _ _ _ _ => ?_)) | (refine isDst 35 ?_; refine W1.iaddrR hr' rfl rfl hic (fun _ _ _ _ _ _ _ => ?_)) | (refine isDst 43 ?_; refine W1.iaddrR hr' rfl rfl hic (fun _ _ _ _ _ _ _ => ?_)) | (refine isDst 51 ?_; refine W1.iaddrR hr' rfl rfl hic (fun _ _ _ _ _ _ _ => ?_)) | (refine isDst 22 ?_; refine W1.lenR hr' rfl ?_) | refine W1.cO ?_ | refine W1.auto ?_ | ((first | refine kA ?_ | refine kB ?_ | refine kC ?_ | refine kD ?_ | refine kE ?_ | refine kF ?_ | refine kG ?_); refine ⟨fun _ => ?_, fun _ => ?_⟩) | refine W1.alloc (fun _ _ => ?_) | refine W1.boxA rfl (fun _ _ => ?_) | refine kq (fun _ _ => ?_) | refine kp ?_ | (refine isIaddrs ?_; first | refine W1.iaddrI inI rfl rfl (by omega) (fun _ _ _ _ _ _ => ?_) | refine W1.iaddrR inR rfl rfl (by omega) (fun _ _ _ _ _ _ _ => ?_)) | (refine isBox ?_; refine W1.boxS inW (by rfl) (fun _ _ => ?_)) | (refine isBslice ?_; refine W1.bslice (fill_all inC rfl) (fun _ _ => ?_))) <;> (try refine ⟨fun _ => rfl, ?_⟩)))) | (first | refine Ws.seq ?_ | refine Ws.region ?_ | refine Ws.draw (fun bd hbd => ?_) | refine Ws.cond rfl ?_ | refine Ws.skip ?_ | refine Ws.scope ?_ | refine Ws.block ?_ | refine Ws.exit ?_ | refine Ws.ret ?_)))
      exact ⟨i + 1, ⟨rfl, rfl, rfl, trivial⟩, List.Sublist.refl _, hic, by show _ - (i + 1) < _ - i; omega⟩
    · (repeat' (first | (first | refine Wo.nil ?_ | refine Wd.nil ?_ | ((first | refine Wo.cons ?_ | refine Wd.cons ?_); (try refine W1.go rfl rfl ?_); ((first | refine k1 ?_ | refine k2 ?_ | (refine isDst 2 ?_; refine W1.alloc (fun b2 hb2 => ?_)) | (refine isDst 5 ?_; refine W1.alloc (fun b5 hb5 => ?_)) | (refine isDst 12 ?_; refine W1.lenR hr.cons rfl ?_) | (refine isDst 15 ?_; refine W1.lenR hr.cons rfl ?_) | (refine isDst 16 ?_; refine W1.lenR hr.cons rfl ?_) | (refine isDst 28 ?_; refine W1.iaddrR hr' rfl rfl hic (fun _ _ _ _ _ _ _ => ?_)) | (refine isDst 35 ?_; refine W1.iaddrR hr' rfl rfl hic (fun _ _ _ _ _ _ _ => ?_)) | (refine isDst 43 ?_; refine W1.iaddrR hr' rfl rfl hic (fun _ _ _ _ _ _ _ => ?_)) | (refine isDst 51 ?_; refine W1.iaddrR hr' rfl rfl hic (fun _ _ _ _ _ _ _ => ?_)) | (refine isDst 22 ?_; refine W1.lenR hr' rfl ?_) | refine W1.cO ?_ | refine W1.auto ?_ | ((first | refine kA ?_ | refine kB ?_ | refine kC ?_ | refine kD ?_ | refine kE ?_ | refine kF ?_ | refine kG ?_); refine ⟨fun _ => ?_, fun _ => ?_⟩) | refine W1.alloc (fun _ _ => ?_) | refine W1.boxA rfl (fun _ _ => ?_) | refine kq (fun _ _ => ?_) | refine kp ?_ | (refine isIaddrs ?_; first | refine W1.iaddrI inI rfl rfl (by omega) (fun _ _ _ _ _ _ => ?_) | refine W1.iaddrR inR rfl rfl (by omega) (fun _ _ _ _ _ _ _ => ?_)) | (refine isBox ?_; refine W1.boxS inW (by rfl) (fun _ _ => ?_)) | (refine isBslice ?_; refine W1.bslice (fill_all inC rfl) (fun _ _ => ?_))) <;> (try refine ⟨fun _ => rfl, ?_⟩)))) | (first | refine Ws.seq ?_ | refine Ws.region ?_ | refine Ws.draw (fun bd hbd => ?_) | refine Ws.cond rfl ?_ | refine Ws.skip ?_ | refine Ws.scope ?_ | refine Ws.block ?_ | refine Ws.exit ?_ | refine Ws.ret ?_)))
      refine Ws.fresh (l := (6, .int .i64 (-100)) :: [(0, v), (2, .ptr (some (b2, 0))), (5, .ptr (some (b5, 0)))]) ⟨rfl, rfl, rfl, rfl, trivial⟩ (fun B => ?_)
      refine (f36_loop hr hb (by omega) hb5).mono ?_
      rintro r E' G ⟨rfl, hE', rfl⟩
      refine Ws.fresh hE' (fun B3 => ?_)
      have eW : (wst (wlo cs cs.length) (whi cs cs.length) 101).1 = if -100 ≤ wlo cs cs.length then wlo cs cs.length else -101 := by
        show (if -100 ≤ wlo cs cs.length ∧ (-100 : Int) ≤ 101 - 1 then min (101 - 1) (wlo cs cs.length) else -101) = _
        by_cases h : -100 ≤ wlo cs cs.length
        · rw [if_pos (by omega), if_pos h]; omega
        · rw [if_neg (by omega), if_neg h]
      have eU : (wst (wlo cs cs.length) (whi cs cs.length) 101).2 = if whi cs cs.length ≤ 100 then whi cs cs.length else 101 := rfl
      rw [eW, eU]
      generalize wlo cs cs.length = W at *
      generalize whi cs cs.length = U at *
      by_cases hW : -100 ≤ W <;> by_cases hU : U ≤ 100
      · rw [show wornR cs = ((W, U), 0) from e1.trans (if_pos ⟨hW, hU⟩)]
        simp only [if_pos hW, if_pos hU]
        (repeat' (first | (first | refine Wo.nil ?_ | refine Wd.nil ?_ | ((first | refine Wo.cons ?_ | refine Wd.cons ?_); (try refine W1.go rfl rfl ?_); ((first | refine k1 ?_ | refine k2 ?_ | refine W1.cO ?_ | refine W1.auto ?_ | ((first | refine kA ?_ | refine kB ?_ | refine kC ?_ | refine kD ?_ | refine kE ?_ | refine kF ?_ | refine kG ?_); refine ⟨fun _ => ?_, fun _ => ?_⟩) | refine W1.alloc (fun _ _ => ?_) | refine W1.boxA rfl (fun _ _ => ?_) | refine kq (fun _ _ => ?_) | refine kp ?_ | (refine isIaddrs ?_; first | refine W1.iaddrI inI rfl rfl (by omega) (fun _ _ _ _ _ _ => ?_) | refine W1.iaddrR inR rfl rfl (by omega) (fun _ _ _ _ _ _ _ => ?_)) | (refine isBox ?_; refine W1.boxS inW (by rfl) (fun _ _ => ?_)) | (refine isBslice ?_; refine W1.bslice (fill_all inC rfl) (fun _ _ => ?_))) <;> (try refine ⟨fun _ => rfl, ?_⟩)))) | (first | refine Ws.seq ?_ | refine Ws.region ?_ | refine Ws.draw (fun bd hbd => ?_) | refine Ws.cond rfl ?_ | refine Ws.skip ?_ | refine Ws.scope ?_ | refine Ws.block ?_ | refine Ws.exit ?_ | refine Ws.ret ?_)))
        (refine FnEnd.ret (F' := F) (vs := [_, _]) (by (first | refine ResF.tmp inW ?_ | refine ResF.cell rfl inF inP ?_); (first | refine ResF.tmp inW ?_ | refine ResF.cell rfl inF inP ?_); exact ResF.nil) inS ⟨?_, rfl⟩)
        rfl
      · rw [show wornR cs = ((0, 0), 2) from e1.trans (if_neg (by omega))]
        simp only [if_pos hW, if_neg hU]
        (repeat' (first | (first | refine Wo.nil ?_ | refine Wd.nil ?_ | ((first | refine Wo.cons ?_ | refine Wd.cons ?_); (try refine W1.go rfl rfl ?_); ((first | refine k1 ?_ | refine k2 ?_ | refine W1.cO ?_ | refine W1.auto ?_ | ((first | refine kA ?_ | refine kB ?_ | refine kC ?_ | refine kD ?_ | refine kE ?_ | refine kF ?_ | refine kG ?_); refine ⟨fun _ => ?_, fun _ => ?_⟩) | refine W1.alloc (fun _ _ => ?_) | refine W1.boxA rfl (fun _ _ => ?_) | refine kq (fun _ _ => ?_) | refine kp ?_ | (refine isIaddrs ?_; first | refine W1.iaddrI inI rfl rfl (by omega) (fun _ _ _ _ _ _ => ?_) | refine W1.iaddrR inR rfl rfl (by omega) (fun _ _ _ _ _ _ _ => ?_)) | (refine isBox ?_; refine W1.boxS inW (by rfl) (fun _ _ => ?_)) | (refine isBslice ?_; refine W1.bslice (fill_all inC rfl) (fun _ _ => ?_))) <;> (try refine ⟨fun _ => rfl, ?_⟩)))) | (first | refine Ws.seq ?_ | refine Ws.region ?_ | refine Ws.draw (fun bd hbd => ?_) | refine Ws.cond rfl ?_ | refine Ws.skip ?_ | refine Ws.scope ?_ | refine Ws.block ?_ | refine Ws.exit ?_ | refine Ws.ret ?_)))
        (refine FnEnd.ret (F' := F) (vs := [_, _]) (by (first | refine ResF.tmp inW ?_ | refine ResF.cell rfl inF inP ?_); (first | refine ResF.tmp inW ?_ | refine ResF.cell rfl inF inP ?_); exact ResF.nil) inS ⟨?_, rfl⟩)
        rfl
      · rw [show wornR cs = ((0, 0), 2) from e1.trans (if_neg (by omega))]
        simp only [if_neg hW, if_pos hU]
        (repeat' (first | (first | refine Wo.nil ?_ | refine Wd.nil ?_ | ((first | refine Wo.cons ?_ | refine Wd.cons ?_); (try refine W1.go rfl rfl ?_); ((first | refine k1 ?_ | refine k2 ?_ | refine W1.cO ?_ | refine W1.auto ?_ | ((first | refine kA ?_ | refine kB ?_ | refine kC ?_ | refine kD ?_ | refine kE ?_ | refine kF ?_ | refine kG ?_); refine ⟨fun _ => ?_, fun _ => ?_⟩) | refine W1.alloc (fun _ _ => ?_) | refine W1.boxA rfl (fun _ _ => ?_) | refine kq (fun _ _ => ?_) | refine kp ?_ | (refine isIaddrs ?_; first | refine W1.iaddrI inI rfl rfl (by omega) (fun _ _ _ _ _ _ => ?_) | refine W1.iaddrR inR rfl rfl (by omega) (fun _ _ _ _ _ _ _ => ?_)) | (refine isBox ?_; refine W1.boxS inW (by rfl) (fun _ _ => ?_)) | (refine isBslice ?_; refine W1.bslice (fill_all inC rfl) (fun _ _ => ?_))) <;> (try refine ⟨fun _ => rfl, ?_⟩)))) | (first | refine Ws.seq ?_ | refine Ws.region ?_ | refine Ws.draw (fun bd hbd => ?_) | refine Ws.cond rfl ?_ | refine Ws.skip ?_ | refine Ws.scope ?_ | refine Ws.block ?_ | refine Ws.exit ?_ | refine Ws.ret ?_)))
        (refine FnEnd.ret (F' := F) (vs := [_, _]) (by (first | refine ResF.tmp inW ?_ | refine ResF.cell rfl inF inP ?_); (first | refine ResF.tmp inW ?_ | refine ResF.cell rfl inF inP ?_); exact ResF.nil) inS ⟨?_, rfl⟩)
        rfl
      · rw [show wornR cs = ((0, 0), 2) from e1.trans (if_neg (by omega))]
        simp only [if_neg hW, if_neg hU]
        (repeat' (first | (first | refine Wo.nil ?_ | refine Wd.nil ?_ | ((first | refine Wo.cons ?_ | refine Wd.cons ?_); (try refine W1.go rfl rfl ?_); ((first | refine k1 ?_ | refine k2 ?_ | refine W1.cO ?_ | refine W1.auto ?_ | ((first | refine kA ?_ | refine kB ?_ | refine kC ?_ | refine kD ?_ | refine kE ?_ | refine kF ?_ | refine kG ?_); refine ⟨fun _ => ?_, fun _ => ?_⟩) | refine W1.alloc (fun _ _ => ?_) | refine W1.boxA rfl (fun _ _ => ?_) | refine kq (fun _ _ => ?_) | refine kp ?_ | (refine isIaddrs ?_; first | refine W1.iaddrI inI rfl rfl (by omega) (fun _ _ _ _ _ _ => ?_) | refine W1.iaddrR inR rfl rfl (by omega) (fun _ _ _ _ _ _ _ => ?_)) | (refine isBox ?_; refine W1.boxS inW (by rfl) (fun _ _ => ?_)) | (refine isBslice ?_; refine W1.bslice (fill_all inC rfl) (fun _ _ => ?_))) <;> (try refine ⟨fun _ => rfl, ?_⟩)))) | (first | refine Ws.seq ?_ | refine Ws.region ?_ | refine Ws.draw (fun bd hbd => ?_) | refine Ws.cond rfl ?_ | refine Ws.skip ?_ | refine Ws.scope ?_ | refine Ws.block ?_ | refine Ws.exit ?_ | refine Ws.ret ?_)))
        (refine FnEnd.ret (F' := F) (vs := [_, _]) (by (first | refine ResF.tmp inW ?_ | refine ResF.cell rfl inF inP ?_); (first | refine ResF.tmp inW ?_ | refine ResF.cell rfl inF inP ?_); exact ResF.nil) inS ⟨?_, rfl⟩)
        rfl
end Go.Ax
