/-
  Contracts: the book: lists of tanks, what is told, a new book.
-/
import Derived.Test.YtjcehnfhkgbpiaaXNO
namespace Go.Ax
set_option maxHeartbeats 1000000
set_option maxRecDepth 6000
set_option linter.unusedSimpArgs false
set_option linter.unusedVariables false
attribute [-simp] List.getD_eq_getElem?_getD
variable {lo : Nat} {F : Hp}
def ovPos (z : Int) : Bool := decide (0 < z)
theorem f76_ok {z : Int} : Pure tblW (fnv 76) [.int .i64 z] F (.bool (ovPos z)) := by
  intro lo
  refine Fn.func (fn := af76) rfl rfl ?_
  (repeat' (first | (first | refine Wo.nil ?_ | refine Wd.nil ?_ | ((first | refine Wo.cons ?_ | refine Wd.cons ?_); (try refine W1.go rfl rfl ?_); ((first | refine k1 ?_ | refine k2 ?_ | refine W1.auto ?_ | ((first | refine kA ?_ | refine kB ?_ | refine kC ?_ | refine kD ?_ | refine kE ?_ | refine kF ?_ | refine kG ?_); refine ⟨fun _ => ?_, fun _ => ?_⟩)) <;> (try refine ⟨fun _ => rfl, ?_⟩)))) | (first | refine Ws.seq ?_ | refine Ws.region ?_ | refine Ws.draw (fun bd hbd => ?_) | refine Ws.cond rfl ?_ | refine Ws.skip ?_ | refine Ws.scope ?_ | refine Ws.block ?_ | refine Ws.exit ?_ | refine Ws.ret ?_)))
  all_goals (refine FnEnd.ret (F' := F) (vs := [_]) (by (first | refine ResF.tmp inW ?_ | refine ResF.cell rfl inF inP ?_); exact ResF.nil) inS ⟨?_, rfl⟩)
  all_goals (simp only [ovPos]; (simp only [tupOf, AV.bool.injEq]; symm; first | (apply decide_eq_true; omega) | (apply decide_eq_false; omega)))
theorem f75_ok {xs : List Int} {v : AV} (hr : RowI F v xs) (hlen : xs.length ≤ 9223372036854775807) : Pure tblW (fnv 75) [v, fnv 76] F (.int .i64 (idxOf ovPos xs)) := by
  intro lo
  refine Fn.func (fn := af75) rfl rfl ?_
  (repeat' (first | (first | refine Wo.nil ?_ | refine Wd.nil ?_ | ((first | refine Wo.cons ?_ | refine Wd.cons ?_); (try refine W1.go rfl rfl ?_); ((first | refine k1 ?_ | refine k2 ?_ | (refine isDst 8 ?_; refine W1.lenI hr rfl ?_) | (refine isDst 10 ?_; refine W1.cO ?_) | (refine isDst 12 ?_; refine W1.iaddrI hr rfl rfl hic (fun b o l' own hm h1 => ?_)) | (refine isDst 13 ?_; refine W1.load1 rfl hm h1 ?_) | (refine isCall ?_; refine W1.pureB rfl rfl f76_ok (fun hp => ?_) (fun hp => ?_)) | refine W1.auto ?_ | ((first | refine kA ?_ | refine kB ?_ | refine kC ?_ | refine kD ?_ | refine kE ?_ | refine kF ?_ | refine kG ?_); refine ⟨fun _ => ?_, fun _ => ?_⟩)) <;> (try refine ⟨fun _ => rfl, ?_⟩)))) | (first | refine Ws.seq ?_ | refine Ws.region ?_ | refine Ws.draw (fun bd hbd => ?_) | refine Ws.cond rfl ?_ | refine Ws.skip ?_ | refine Ws.scope ?_ | refine Ws.block ?_ | refine Ws.exit ?_ | refine Ws.ret ?_)))
  refine Ws.loopG (X := Nat) (fun i => (9, .int .i64 (i : Nat)) :: [(1, fnv 76), (7, v), (8, .int .i64 xs.length)]) (fun _ => F) (fun i => i ≤ xs.length ∧ ∀ j, j < i → ovPos (xs.getD j 0) = false) (fun i => xs.length - i) 0
    ⟨rfl, rfl, rfl, rfl, trivial⟩ inS ⟨Nat.zero_le _, fun j hj => absurd hj (Nat.not_lt_zero j)⟩ ?_
  rintro i B ⟨hi, hb⟩
  by_cases hic : i < xs.length
  · (repeat' (first | (first | refine Wo.nil ?_ | refine Wd.nil ?_ | ((first | refine Wo.cons ?_ | refine Wd.cons ?_); (try refine W1.go rfl rfl ?_); ((first | refine k1 ?_ | refine k2 ?_ | (refine isDst 8 ?_; refine W1.lenI hr rfl ?_) | (refine isDst 10 ?_; refine W1.cO ?_) | (refine isDst 12 ?_; refine W1.iaddrI hr rfl rfl hic (fun b o l' own hm h1 => ?_)) | (refine isDst 13 ?_; refine W1.load1 rfl hm h1 ?_) | (refine isCall ?_; refine W1.pureB rfl rfl f76_ok (fun hp => ?_) (fun hp => ?_)) | refine W1.auto ?_ | ((first | refine kA ?_ | refine kB ?_ | refine kC ?_ | refine kD ?_ | refine kE ?_ | refine kF ?_ | refine kG ?_); refine ⟨fun _ => ?_, fun _ => ?_⟩)) <;> (try refine ⟨fun _ => rfl, ?_⟩)))) | (first | refine Ws.seq ?_ | refine Ws.region ?_ | refine Ws.draw (fun bd hbd => ?_) | refine Ws.cond rfl ?_ | refine Ws.skip ?_ | refine Ws.scope ?_ | refine Ws.block ?_ | refine Ws.exit ?_ | refine Ws.ret ?_)))
    · rw [idxOf_found (z := 0) hic hp hb]
      (refine FnEnd.ret (F' := F) (vs := [_]) (by (first | refine ResF.tmp inW ?_ | refine ResF.cell rfl inF inP ?_); exact ResF.nil) inS ⟨?_, rfl⟩)
      rfl
    · refine ⟨i + 1, ⟨rfl, rfl, rfl, rfl, trivial⟩, inS, ⟨by omega, fun j hj => ?_⟩, by omega⟩
      rcases Nat.lt_succ_iff_lt_or_eq.1 hj with h | rfl
      · exact hb j h
      · exact hp
  · rw [idxOf_none (p := ovPos) (z := 0) (fun j hj => hb j (by omega))]
    (repeat' (first | (first | refine Wo.nil ?_ | refine Wd.nil ?_ | ((first | refine Wo.cons ?_ | refine Wd.cons ?_); (try refine W1.go rfl rfl ?_); ((first | refine k1 ?_ | refine k2 ?_ | (refine isDst 8 ?_; refine W1.lenI hr rfl ?_) | (refine isDst 10 ?_; refine W1.cO ?_) | (refine isDst 12 ?_; refine W1.iaddrI hr rfl rfl hic (fun b o l' own hm h1 => ?_)) | (refine isDst 13 ?_; refine W1.load1 rfl hm h1 ?_) | (refine isCall ?_; refine W1.pureB rfl rfl f76_ok (fun hp => ?_) (fun hp => ?_)) | refine W1.auto ?_ | ((first | refine kA ?_ | refine kB ?_ | refine kC ?_ | refine kD ?_ | refine kE ?_ | refine kF ?_ | refine kG ?_); refine ⟨fun _ => ?_, fun _ => ?_⟩)) <;> (try refine ⟨fun _ => rfl, ?_⟩)))) | (first | refine Ws.seq ?_ | refine Ws.region ?_ | refine Ws.draw (fun bd hbd => ?_) | refine Ws.cond rfl ?_ | refine Ws.skip ?_ | refine Ws.scope ?_ | refine Ws.block ?_ | refine Ws.exit ?_ | refine Ws.ret ?_)))
    (refine FnEnd.ret (F' := F) (vs := [_]) (by (first | refine ResF.tmp inW ?_ | refine ResF.cell rfl inF inP ?_); exact ResF.nil) inS ⟨?_, rfl⟩)
    rfl
def pickN (p : Int → Bool) (n : Nat) : List Int := ((List.range n).map fun t => ((t : Nat) : Int)).filter p
theorem pickN_succ (p : Int → Bool) (n : Nat) : pickN p (n + 1) = if p (n : Nat) = true then pickN p n ++ [((n : Nat) : Int)] else pickN p n := by
  unfold pickN
  rw [List.range_succ, List.map_append, List.filter_append]
  by_cases h : p (n : Nat) = true
  · rw [if_pos h]; simp [h]
  · rw [if_neg h]; simp [h]
theorem pickN_len (p : Int → Bool) (n : Nat) : (pickN p n).length ≤ n := by
  unfold pickN
  refine Nat.le_trans (List.length_filter_le _ _) ?_
  simp
theorem pickL_N (T : Int) (p : Int → Bool) : pickL T p = pickN p (T.toNat + 1) := rfl
def seenB (S : List Int) (t : Int) : Bool := decide (S.getD t.toNat 0 = 1)
theorem f80_ok {T : Int} {S : List Int} {v xv : AV} {bk : Nat} {ob : Bool} (hT : 1 ≤ T ∧ T ≤ 12) (hS : S.length = 13) (hbk : (bk, .cells (bookC T v xv S) ob) ∈ F) :
    Fn tblW lo (fnv 80) [.ptr (some (bk, 0))] F (fun r F' => ∃ Fo, OwnI lo false r Fo (pickL T (seenB S)) ∧ F' = Fo ++ F) := by
  refine Fn.func (fn := af80) rfl rfl ?_
  rw [pickL_N]
  (repeat' (first | (first | refine Wo.nil ?_ | refine Wd.nil ?_ | ((first | refine Wo.cons ?_ | refine Wd.cons ?_); (try refine W1.go rfl rfl ?_); ((first | refine k1 ?_ | refine k2 ?_ | (refine isDst 9 ?_; refine W1.load1 rfl hbk rfl ?_) | (refine isDst 12 ?_; refine W1.cO ?_) | (refine isDst 18 ?_; refine W1.iaddrA i rfl rfl rfl (by omega) ?_) | (refine isDst 19 ?_; refine W1.load1 rfl (List.mem_append_right _ hbk) (book_get (t := i) (by omega) (by omega)) ?_) | (refine isDst 20 ?_; refine W1.cO ?_) | (refine isDst 23 ?_; refine W1.bslice (l := [.int .i64 (i : Nat)]) (fill_all (catF1 rfl rfl catF0) rfl) (fun b23 hb23 => ?_)) | (refine isDst 24 ?_; refine W1.appI (F1 := [_]) rfl ho rfl rfl (List.mem_cons_self ..) (by omega) (fun w Fw hw => ?_); simp only [List.cons_append, List.nil_append]) | refine W1.auto ?_ | ((first | refine kA ?_ | refine kB ?_ | refine kC ?_ | refine kD ?_ | refine kE ?_ | refine kF ?_ | refine kG ?_); refine ⟨fun _ => ?_, fun _ => ?_⟩)) <;> (try refine ⟨fun _ => rfl, ?_⟩)))) | (first | refine Ws.seq ?_ | refine Ws.region ?_ | refine Ws.draw (fun bd hbd => ?_) | refine Ws.cond rfl ?_ | refine Ws.skip ?_ | refine Ws.scope ?_ | refine Ws.block ?_ | refine Ws.exit ?_ | refine Ws.ret ?_)))
  refine Ws.fresh (l := (3, AV.slc none 0 0 true 0) :: (11, .int .i64 0) :: [(0, .ptr (some (bk, 0))), (10, .int .i64 (T + 1))]) ⟨rfl, rfl, rfl, rfl, trivial⟩ (fun B => ?_)
  refine Ws.loopG (X := Nat × AV × Hp) (fun x => (3, x.2.1) :: (11, .int .i64 (x.1 : Nat)) :: [(0, .ptr (some (bk, 0))), (10, .int .i64 (T + 1))]) (fun x => x.2.2 ++ F) (fun x => x.1 ≤ T.toNat + 1 ∧ OwnI lo false x.2.1 x.2.2 (pickN (seenB S) x.1)) (fun x => T.toNat + 1 - x.1) (0, AV.slc none 0 0 true 0, []) ⟨rfl, rfl, rfl, rfl, trivial⟩ (List.Sublist.refl _) ⟨Nat.zero_le _, .nil⟩ ?_
  rintro ⟨i, u, Fo⟩ B2 ⟨hi, ho⟩
  have hi : i ≤ T.toNat + 1 := hi
  have ho : OwnI lo false u Fo (pickN (seenB S) i) := ho
  dsimp only
  have hpl := pickN_len (seenB S) i
  by_cases hic : i < T.toNat + 1
  · by_cases hs : S.getD i 0 = 1
    · have ep : pickN (seenB S) (i + 1) = pickN (seenB S) i ++ [((i : Nat) : Int)] := by rw [pickN_succ, if_pos (show seenB S (i : Nat) = true by unfold seenB; rw [Int.toNat_natCast]; exact decide_eq_true hs)]
      (repeat' (first | (first | refine Wo.nil ?_ | refine Wd.nil ?_ | ((first | refine Wo.cons ?_ | refine Wd.cons ?_); (try refine W1.go rfl rfl ?_); ((first | refine k1 ?_ | refine k2 ?_ | (refine isDst 9 ?_; refine W1.load1 rfl hbk rfl ?_) | (refine isDst 12 ?_; refine W1.cO ?_) | (refine isDst 18 ?_; refine W1.iaddrA i rfl rfl rfl (by omega) ?_) | (refine isDst 19 ?_; refine W1.load1 rfl (List.mem_append_right _ hbk) (book_get (t := i) (by omega) (by omega)) ?_) | (refine isDst 20 ?_; refine W1.cO ?_) | (refine isDst 23 ?_; refine W1.bslice (l := [.int .i64 (i : Nat)]) (fill_all (catF1 rfl rfl catF0) rfl) (fun b23 hb23 => ?_)) | (refine isDst 24 ?_; refine W1.appI (F1 := [_]) rfl ho rfl rfl (List.mem_cons_self ..) (by omega) (fun w Fw hw => ?_); simp only [List.cons_append, List.nil_append]) | refine W1.auto ?_ | ((first | refine kA ?_ | refine kB ?_ | refine kC ?_ | refine kD ?_ | refine kE ?_ | refine kF ?_ | refine kG ?_); refine ⟨fun _ => ?_, fun _ => ?_⟩)) <;> (try refine ⟨fun _ => rfl, ?_⟩)))) | (first | refine Ws.seq ?_ | refine Ws.region ?_ | refine Ws.draw (fun bd hbd => ?_) | refine Ws.cond rfl ?_ | refine Ws.skip ?_ | refine Ws.scope ?_ | refine Ws.block ?_ | refine Ws.exit ?_ | refine Ws.ret ?_)))
      refine ⟨(i + 1, w, Fw), ⟨rfl, rfl, rfl, rfl, trivial⟩, ?_, ⟨hic, ?_⟩, by show _ - (i + 1) < _ - i; omega⟩
      · exact List.Sublist.append (List.Sublist.refl _) (.cons _ (List.Sublist.refl _))
      · show OwnI lo false w Fw (pickN (seenB S) (i + 1))
        rw [ep]; exact hw
    · have ep : pickN (seenB S) (i + 1) = pickN (seenB S) i := by rw [pickN_succ, if_neg (fun h => hs (by have := of_decide_eq_true h; rwa [Int.toNat_natCast] at this))]
      (repeat' (first | (first | refine Wo.nil ?_ | refine Wd.nil ?_ | ((first | refine Wo.cons ?_ | refine Wd.cons ?_); (try refine W1.go rfl rfl ?_); ((first | refine k1 ?_ | refine k2 ?_ | (refine isDst 9 ?_; refine W1.load1 rfl hbk rfl ?_) | (refine isDst 12 ?_; refine W1.cO ?_) | (refine isDst 18 ?_; refine W1.iaddrA i rfl rfl rfl (by omega) ?_) | (refine isDst 19 ?_; refine W1.load1 rfl (List.mem_append_right _ hbk) (book_get (t := i) (by omega) (by omega)) ?_) | (refine isDst 20 ?_; refine W1.cO ?_) | (refine isDst 23 ?_; refine W1.bslice (l := [.int .i64 (i : Nat)]) (fill_all (catF1 rfl rfl catF0) rfl) (fun b23 hb23 => ?_)) | (refine isDst 24 ?_; refine W1.appI (F1 := [_]) rfl ho rfl rfl (List.mem_cons_self ..) (by omega) (fun w Fw hw => ?_); simp only [List.cons_append, List.nil_append]) | refine W1.auto ?_ | ((first | refine kA ?_ | refine kB ?_ | refine kC ?_ | refine kD ?_ | refine kE ?_ | refine kF ?_ | refine kG ?_); refine ⟨fun _ => ?_, fun _ => ?_⟩)) <;> (try refine ⟨fun _ => rfl, ?_⟩)))) | (first | refine Ws.seq ?_ | refine Ws.region ?_ | refine Ws.draw (fun bd hbd => ?_) | refine Ws.cond rfl ?_ | refine Ws.skip ?_ | refine Ws.scope ?_ | refine Ws.block ?_ | refine Ws.exit ?_ | refine Ws.ret ?_)))
      refine ⟨(i + 1, u, Fo), ⟨rfl, rfl, rfl, rfl, trivial⟩, List.Sublist.refl _, ⟨hic, ?_⟩, by show _ - (i + 1) < _ - i; omega⟩
      show OwnI lo false u Fo (pickN (seenB S) (i + 1))
      rw [ep]; exact ho
  · obtain rfl : i = T.toNat + 1 := by omega
    (repeat' (first | (first | refine Wo.nil ?_ | refine Wd.nil ?_ | ((first | refine Wo.cons ?_ | refine Wd.cons ?_); (try refine W1.go rfl rfl ?_); ((first | refine k1 ?_ | refine k2 ?_ | (refine isDst 9 ?_; refine W1.load1 rfl hbk rfl ?_) | (refine isDst 12 ?_; refine W1.cO ?_) | (refine isDst 18 ?_; refine W1.iaddrA i rfl rfl rfl (by omega) ?_) | (refine isDst 19 ?_; refine W1.load1 rfl (List.mem_append_right _ hbk) (book_get (t := i) (by omega) (by omega)) ?_) | (refine isDst 20 ?_; refine W1.cO ?_) | (refine isDst 23 ?_; refine W1.bslice (l := [.int .i64 (i : Nat)]) (fill_all (catF1 rfl rfl catF0) rfl) (fun b23 hb23 => ?_)) | (refine isDst 24 ?_; refine W1.appI (F1 := [_]) rfl ho rfl rfl (List.mem_cons_self ..) (by omega) (fun w Fw hw => ?_); simp only [List.cons_append, List.nil_append]) | refine W1.auto ?_ | ((first | refine kA ?_ | refine kB ?_ | refine kC ?_ | refine kD ?_ | refine kE ?_ | refine kF ?_ | refine kG ?_); refine ⟨fun _ => ?_, fun _ => ?_⟩)) <;> (try refine ⟨fun _ => rfl, ?_⟩)))) | (first | refine Ws.seq ?_ | refine Ws.region ?_ | refine Ws.draw (fun bd hbd => ?_) | refine Ws.cond rfl ?_ | refine Ws.skip ?_ | refine Ws.scope ?_ | refine Ws.block ?_ | refine Ws.exit ?_ | refine Ws.ret ?_)))
    exact FnEnd.ret (F' := Fo ++ F) (vs := [_]) (.tmp rfl .nil) (List.Sublist.refl _) ⟨Fo, ho, rfl⟩
theorem f79_ok {T : Int} {S l : List Int} {v xv sv : AV} {bk : Nat} {ob : Bool} (hT : 1 ≤ T ∧ T ≤ 12) (hbk : (bk, .cells (bookC T v xv S) ob) ∈ F) (hs : RowI F sv l) (hll : l.length ≤ 9223372036854775807) :
    Fn tblW lo (fnv 79) [.ptr (some (bk, 0)), sv] F (fun r F' => ∃ Fo, OwnI lo false r Fo (pickL T (fun t => !hasT l t)) ∧ F' = Fo ++ F) := by
  refine Fn.func (fn := af79) rfl rfl ?_
  rw [pickL_N]
  (repeat' (first | (first | refine Wo.nil ?_ | refine Wd.nil ?_ | ((first | refine Wo.cons ?_ | refine Wd.cons ?_); (try refine W1.go rfl rfl ?_); ((first | refine k1 ?_ | refine k2 ?_ | (refine isDst 11 ?_; refine W1.load1 rfl hbk rfl ?_) | (refine isDst 14 ?_; refine W1.cO ?_) | (refine isDst 18 ?_; refine W1.pure rfl rfl (f64_ok hs.app hll) ?_; rw [hc]) | (refine isDst 22 ?_; refine W1.bslice (l := [.int .i64 (i : Nat)]) (fill_all (catF1 rfl rfl catF0) rfl) (fun b23 hb23 => ?_)) | (refine isDst 23 ?_; refine W1.appI (F1 := [_]) rfl ho rfl rfl (List.mem_cons_self ..) (by omega) (fun w Fw hw => ?_); simp only [List.cons_append, List.nil_append]) | refine W1.auto ?_ | ((first | refine kA ?_ | refine kB ?_ | refine kC ?_ | refine kD ?_ | refine kE ?_ | refine kF ?_ | refine kG ?_); refine ⟨fun _ => ?_, fun _ => ?_⟩)) <;> (try refine ⟨fun _ => rfl, ?_⟩)))) | (first | refine Ws.seq ?_ | refine Ws.region ?_ | refine Ws.draw (fun bd hbd => ?_) | refine Ws.cond rfl ?_ | refine Ws.skip ?_ | refine Ws.scope ?_ | refine Ws.block ?_ | refine Ws.exit ?_ | refine Ws.ret ?_)))
  refine Ws.fresh (l := (5, AV.slc none 0 0 true 0) :: (13, .int .i64 0) :: [(1, sv), (12, .int .i64 (T + 1))]) ⟨rfl, rfl, rfl, rfl, trivial⟩ (fun B => ?_)
  refine Ws.loopG (X := Nat × AV × Hp) (fun x => (5, x.2.1) :: (13, .int .i64 (x.1 : Nat)) :: [(1, sv), (12, .int .i64 (T + 1))]) (fun x => x.2.2 ++ F) (fun x => x.1 ≤ T.toNat + 1 ∧ OwnI lo false x.2.1 x.2.2 (pickN (fun t => !hasT l t) x.1)) (fun x => T.toNat + 1 - x.1) (0, AV.slc none 0 0 true 0, []) ⟨rfl, rfl, rfl, rfl, trivial⟩ (List.Sublist.refl _) ⟨Nat.zero_le _, .nil⟩ ?_
  rintro ⟨i, u, Fo⟩ B2 ⟨hi, ho⟩
  have hi : i ≤ T.toNat + 1 := hi
  have ho : OwnI lo false u Fo (pickN (fun t => !hasT l t) i) := ho
  dsimp only
  have hpl := pickN_len (fun t => !hasT l t) i
  by_cases hic : i < T.toNat + 1
  · cases hc : hasT l (i : Nat) with
    | false =>
      have ep : pickN (fun t => !hasT l t) (i + 1) = pickN (fun t => !hasT l t) i ++ [((i : Nat) : Int)] := by rw [pickN_succ, if_pos (by rw [hc]; rfl)]
      (repeat' (first | (first | refine Wo.nil ?_ | refine Wd.nil ?_ | ((first | refine Wo.cons ?_ | refine Wd.cons ?_); (try refine W1.go rfl rfl ?_); ((first | refine k1 ?_ | refine k2 ?_ | (refine isDst 11 ?_; refine W1.load1 rfl hbk rfl ?_) | (refine isDst 14 ?_; refine W1.cO ?_) | (refine isDst 18 ?_; refine W1.pure rfl rfl (f64_ok hs.app hll) ?_; rw [hc]) | (refine isDst 22 ?_; refine W1.bslice (l := [.int .i64 (i : Nat)]) (fill_all (catF1 rfl rfl catF0) rfl) (fun b23 hb23 => ?_)) | (refine isDst 23 ?_; refine W1.appI (F1 := [_]) rfl ho rfl rfl (List.mem_cons_self ..) (by omega) (fun w Fw hw => ?_); simp only [List.cons_append, List.nil_append]) | refine W1.auto ?_ | ((first | refine kA ?_ | refine kB ?_ | refine kC ?_ | refine kD ?_ | refine kE ?_ | refine kF ?_ | refine kG ?_); refine ⟨fun _ => ?_, fun _ => ?_⟩)) <;> (try refine ⟨fun _ => rfl, ?_⟩)))) | (first | refine Ws.seq ?_ | refine Ws.region ?_ | refine Ws.draw (fun bd hbd => ?_) | refine Ws.cond rfl ?_ | refine Ws.skip ?_ | refine Ws.scope ?_ | refine Ws.block ?_ | refine Ws.exit ?_ | refine Ws.ret ?_)))
      refine ⟨(i + 1, w, Fw), ⟨rfl, rfl, rfl, rfl, trivial⟩, ?_, ⟨hic, ?_⟩, by show _ - (i + 1) < _ - i; omega⟩
      · exact List.Sublist.append (List.Sublist.refl _) (.cons _ (List.Sublist.refl _))
      · show OwnI lo false w Fw (pickN (fun t => !hasT l t) (i + 1))
        rw [ep]; exact hw
    | true =>
      have ep : pickN (fun t => !hasT l t) (i + 1) = pickN (fun t => !hasT l t) i := by rw [pickN_succ, if_neg (by rw [hc]; simp)]
      (repeat' (first | (first | refine Wo.nil ?_ | refine Wd.nil ?_ | ((first | refine Wo.cons ?_ | refine Wd.cons ?_); (try refine W1.go rfl rfl ?_); ((first | refine k1 ?_ | refine k2 ?_ | (refine isDst 11 ?_; refine W1.load1 rfl hbk rfl ?_) | (refine isDst 14 ?_; refine W1.cO ?_) | (refine isDst 18 ?_; refine W1.pure rfl rfl (f64_ok hs.app hll) ?_; rw [hc]) | (refine isDst 22 ?_; refine W1.bslice (l := [.int .i64 (i : Nat)]) (fill_all (catF1 rfl rfl catF0) rfl) (fun b23 hb23 => ?_)) | (refine isDst 23 ?_; refine W1.appI (F1 := [_]) rfl ho rfl rfl (List.mem_cons_self ..) (by omega) (fun w Fw hw => ?_); simp only [List.cons_append, List.nil_append]) | refine W1.auto ?_ | ((first | refine kA ?_ | refine kB ?_ | refine kC ?_ | refine kD ?_ | refine kE ?_ | refine kF ?_ | refine kG ?_); refine ⟨fun _ => ?_, fun _ => ?_⟩)) <;> (try refine ⟨fun _ => rfl, ?_⟩)))) | (first | refine Ws.seq ?_ | refine Ws.region ?_ | refine Ws.draw (fun bd hbd => ?_) | refine Ws.cond rfl ?_ | refine Ws.skip ?_ | refine Ws.scope ?_ | refine Ws.block ?_ | refine Ws.exit ?_ | refine Ws.ret ?_)))
      refine ⟨(i + 1, u, Fo), ⟨rfl, rfl, rfl, rfl, trivial⟩, List.Sublist.refl _, ⟨hic, ?_⟩, by show _ - (i + 1) < _ - i; omega⟩
      show OwnI lo false u Fo (pickN (fun t => !hasT l t) (i + 1))
      rw [ep]; exact ho
  · obtain rfl : i = T.toNat + 1 := by omega
    (repeat' (first | (first | refine Wo.nil ?_ | refine Wd.nil ?_ | ((first | refine Wo.cons ?_ | refine Wd.cons ?_); (try refine W1.go rfl rfl ?_); ((first | refine k1 ?_ | refine k2 ?_ | (refine isDst 11 ?_; refine W1.load1 rfl hbk rfl ?_) | (refine isDst 14 ?_; refine W1.cO ?_) | (refine isDst 18 ?_; refine W1.pure rfl rfl (f64_ok hs.app hll) ?_; rw [hc]) | (refine isDst 22 ?_; refine W1.bslice (l := [.int .i64 (i : Nat)]) (fill_all (catF1 rfl rfl catF0) rfl) (fun b23 hb23 => ?_)) | (refine isDst 23 ?_; refine W1.appI (F1 := [_]) rfl ho rfl rfl (List.mem_cons_self ..) (by omega) (fun w Fw hw => ?_); simp only [List.cons_append, List.nil_append]) | refine W1.auto ?_ | ((first | refine kA ?_ | refine kB ?_ | refine kC ?_ | refine kD ?_ | refine kE ?_ | refine kF ?_ | refine kG ?_); refine ⟨fun _ => ?_, fun _ => ?_⟩)) <;> (try refine ⟨fun _ => rfl, ?_⟩)))) | (first | refine Ws.seq ?_ | refine Ws.region ?_ | refine Ws.draw (fun bd hbd => ?_) | refine Ws.cond rfl ?_ | refine Ws.skip ?_ | refine Ws.scope ?_ | refine Ws.block ?_ | refine Ws.exit ?_ | refine Ws.ret ?_)))
    exact FnEnd.ret (F' := Fo ++ F) (vs := [_]) (.tmp rfl .nil) (List.Sublist.refl _) ⟨Fo, ho, rfl⟩
end Go.Ax
