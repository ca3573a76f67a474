/-
  Contracts: sets: rising lists, whether a list has a number; twice.
-/
import Derived.Test.YtjcehnfhkgbpiaaXNE
namespace Go.Ax
set_option maxHeartbeats 1000000
set_option maxRecDepth 6000
set_option linter.unusedSimpArgs false
set_option linter.unusedVariables false
attribute [-simp] List.getD_eq_getElem?_getD
variable {lo : Nat} {F : Hp}
theorem anyR {p : Nat → Bool} {n : Nat} : (List.range n).any p = true ↔ ∃ i, i < n ∧ p i = true := by
  rw [List.any_eq_true]
  exact ⟨fun ⟨i, h, k⟩ => ⟨i, List.mem_range.1 h, k⟩, fun ⟨i, h, k⟩ => ⟨i, List.mem_range.2 h, k⟩⟩
theorem anyR_no {p : Nat → Bool} {n : Nat} (h : ∀ i, i < n → p i = false) : (List.range n).any p = false := by
  rw [List.any_eq_false]
  intro i hi
  rw [h i (List.mem_range.1 hi)]; simp
theorem rise_no {T : Int} {l : List Int} {i : Nat} (hi : i < l.length) (h : badS T l i = true) : rise T l = false := by
  unfold rise; rw [anyR.2 ⟨i, hi, h⟩]; rfl
theorem rise_yes {T : Int} {l : List Int} (h : ∀ i, i < l.length → badS T l i = false) : rise T l = true := by
  unfold rise; rw [anyR_no h]; rfl
theorem prevAt_succ {l : List Int} {i : Nat} : prevAt l (i + 1) = l.getD i 0 := by unfold prevAt; rw [if_neg (by omega)]; rfl
theorem f43_ok {l : List Int} {T : Int} {v : AV} (hr : RowI F v l) (hl : l.length ≤ 9223372036854775807) : Pure tblW (fnv 43) [v, .int .i64 T] F (.bool (rise T l)) := by
  intro lo
  refine Fn.func (fn := af43) rfl rfl ?_
  (repeat' (first | (first | refine Wo.nil ?_ | refine Wd.nil ?_ | ((first | refine Wo.cons ?_ | refine Wd.cons ?_); (try refine W1.go rfl rfl ?_); ((first | refine k1 ?_ | refine k2 ?_ | (refine isDst 9 ?_; refine W1.lenI hr rfl ?_) | (refine isDst 11 ?_; refine W1.cO ?_) | (refine isDst 12 ?_; refine W1.iaddrI hr rfl rfl hic (fun b o l' own hm h1 => ?_)) | (refine isDst 13 ?_; refine W1.load1 rfl hm h1 ?_) | refine W1.auto ?_ | ((first | refine kA ?_ | refine kB ?_ | refine kC ?_ | refine kD ?_ | refine kE ?_ | refine kF ?_ | refine kG ?_); refine ⟨fun _ => ?_, fun _ => ?_⟩)) <;> (try refine ⟨fun _ => rfl, ?_⟩)))) | (first | refine Ws.seq ?_ | refine Ws.region ?_ | refine Ws.draw (fun bd hbd => ?_) | refine Ws.cond rfl ?_ | refine Ws.skip ?_ | refine Ws.scope ?_ | refine Ws.block ?_ | refine Ws.exit ?_ | refine Ws.ret ?_)))
  refine Ws.loopG (X := Nat) (fun i => (5, .int .i64 (prevAt l i)) :: (10, .int .i64 (i : Nat)) :: [(1, .int .i64 T), (8, v), (9, .int .i64 l.length)]) (fun _ => F) (fun i => i ≤ l.length ∧ ∀ j, j < i → badS T l j = false) (fun i => l.length - i) 0 ⟨rfl, rfl, rfl, rfl, rfl, trivial⟩ (List.Sublist.refl _) ⟨Nat.zero_le _, fun j hj => absurd hj (Nat.not_lt_zero j)⟩ ?_
  rintro i B2 ⟨hi, hb⟩
  by_cases hic : i < l.length
  · (repeat' (first | (first | refine Wo.nil ?_ | refine Wd.nil ?_ | ((first | refine Wo.cons ?_ | refine Wd.cons ?_); (try refine W1.go rfl rfl ?_); ((first | refine k1 ?_ | refine k2 ?_ | (refine isDst 9 ?_; refine W1.lenI hr rfl ?_) | (refine isDst 11 ?_; refine W1.cO ?_) | (refine isDst 12 ?_; refine W1.iaddrI hr rfl rfl hic (fun b o l' own hm h1 => ?_)) | (refine isDst 13 ?_; refine W1.load1 rfl hm h1 ?_) | refine W1.auto ?_ | ((first | refine kA ?_ | refine kB ?_ | refine kC ?_ | refine kD ?_ | refine kE ?_ | refine kF ?_ | refine kG ?_); refine ⟨fun _ => ?_, fun _ => ?_⟩)) <;> (try refine ⟨fun _ => rfl, ?_⟩)))) | (first | refine Ws.seq ?_ | refine Ws.region ?_ | refine Ws.draw (fun bd hbd => ?_) | refine Ws.cond rfl ?_ | refine Ws.skip ?_ | refine Ws.scope ?_ | refine Ws.block ?_ | refine Ws.exit ?_ | refine Ws.ret ?_)))
    · rw [rise_no hic (decide_eq_true (by omega))]
      (refine FnEnd.ret (F' := F) (vs := [_]) (by (first | refine ResF.tmp inW ?_ | refine ResF.cell rfl inF inP ?_); exact ResF.nil) inS ⟨?_, rfl⟩)
      rfl
    · rw [rise_no hic (decide_eq_true (by omega))]
      (refine FnEnd.ret (F' := F) (vs := [_]) (by (first | refine ResF.tmp inW ?_ | refine ResF.cell rfl inF inP ?_); exact ResF.nil) inS ⟨?_, rfl⟩)
      rfl
    · refine ⟨i + 1, ⟨by rw [prevAt_succ]; rfl, rfl, rfl, rfl, rfl, trivial⟩, inS, ⟨hic, fun j hj => ?_⟩, by show _ - (i + 1) < _ - i; omega⟩
      rcases Nat.lt_succ_iff_lt_or_eq.1 hj with hj | rfl
      · exact hb j hj
      · exact decide_eq_false (by omega)
  · rw [rise_yes fun j hj => hb j (by omega)]
    (repeat' (first | (first | refine Wo.nil ?_ | refine Wd.nil ?_ | ((first | refine Wo.cons ?_ | refine Wd.cons ?_); (try refine W1.go rfl rfl ?_); ((first | refine k1 ?_ | refine k2 ?_ | (refine isDst 9 ?_; refine W1.lenI hr rfl ?_) | (refine isDst 11 ?_; refine W1.cO ?_) | (refine isDst 12 ?_; refine W1.iaddrI hr rfl rfl hic (fun b o l' own hm h1 => ?_)) | (refine isDst 13 ?_; refine W1.load1 rfl hm h1 ?_) | refine W1.auto ?_ | ((first | refine kA ?_ | refine kB ?_ | refine kC ?_ | refine kD ?_ | refine kE ?_ | refine kF ?_ | refine kG ?_); refine ⟨fun _ => ?_, fun _ => ?_⟩)) <;> (try refine ⟨fun _ => rfl, ?_⟩)))) | (first | refine Ws.seq ?_ | refine Ws.region ?_ | refine Ws.draw (fun bd hbd => ?_) | refine Ws.cond rfl ?_ | refine Ws.skip ?_ | refine Ws.scope ?_ | refine Ws.block ?_ | refine Ws.exit ?_ | refine Ws.ret ?_)))
    (refine FnEnd.ret (F' := F) (vs := [_]) (by (first | refine ResF.tmp inW ?_ | refine ResF.cell rfl inF inP ?_); exact ResF.nil) inS ⟨?_, rfl⟩)
    rfl
theorem f84_ok {l : List Int} {n : Int} {v : AV} (hr : RowI F v l) (hl : l.length ≤ 9223372036854775807) : Pure tblW (fnv 84) [v, .int .i64 n] F (.int .i64 (idxOf (fun z => decide (z = n)) l)) := by
  intro lo
  refine Fn.func (fn := af84) rfl rfl ?_
  (repeat' (first | (first | refine Wo.nil ?_ | refine Wd.nil ?_ | ((first | refine Wo.cons ?_ | refine Wd.cons ?_); (try refine W1.go rfl rfl ?_); ((first | refine k1 ?_ | refine k2 ?_ | (refine isDst 7 ?_; refine W1.lenI hr rfl ?_) | (refine isDst 9 ?_; refine W1.cO ?_) | (refine isDst 14 ?_; refine W1.iaddrI hr rfl rfl hic (fun b o l' own hm h1 => ?_)) | (refine isDst 15 ?_; refine W1.load1 rfl hm h1 ?_) | refine W1.auto ?_ | ((first | refine kA ?_ | refine kB ?_ | refine kC ?_ | refine kD ?_ | refine kE ?_ | refine kF ?_ | refine kG ?_); refine ⟨fun _ => ?_, fun _ => ?_⟩)) <;> (try refine ⟨fun _ => rfl, ?_⟩)))) | (first | refine Ws.seq ?_ | refine Ws.region ?_ | refine Ws.draw (fun bd hbd => ?_) | refine Ws.cond rfl ?_ | refine Ws.skip ?_ | refine Ws.scope ?_ | refine Ws.block ?_ | refine Ws.exit ?_ | refine Ws.ret ?_)))
  refine Ws.loopG (X := Nat) (fun i => (8, .int .i64 (i : Nat)) :: [(0, v), (1, .int .i64 n), (7, .int .i64 l.length)]) (fun _ => F) (fun i => i ≤ l.length ∧ ∀ j, j < i → l.getD j 0 ≠ n) (fun i => l.length - i) 0 ⟨rfl, rfl, rfl, rfl, trivial⟩ (List.Sublist.refl _) ⟨Nat.zero_le _, fun j hj => absurd hj (Nat.not_lt_zero j)⟩ ?_
  rintro i B2 ⟨hi, hb⟩
  by_cases hic : i < l.length
  · (repeat' (first | (first | refine Wo.nil ?_ | refine Wd.nil ?_ | ((first | refine Wo.cons ?_ | refine Wd.cons ?_); (try refine W1.go rfl rfl ?_); ((first | refine k1 ?_ | refine k2 ?_ | (refine isDst 7 ?_; refine W1.lenI hr rfl ?_) | (refine isDst 9 ?_; refine W1.cO ?_) | (refine isDst 14 ?_; refine W1.iaddrI hr rfl rfl hic (fun b o l' own hm h1 => ?_)) | (refine isDst 15 ?_; refine W1.load1 rfl hm h1 ?_) | refine W1.auto ?_ | ((first | refine kA ?_ | refine kB ?_ | refine kC ?_ | refine kD ?_ | refine kE ?_ | refine kF ?_ | refine kG ?_); refine ⟨fun _ => ?_, fun _ => ?_⟩)) <;> (try refine ⟨fun _ => rfl, ?_⟩)))) | (first | refine Ws.seq ?_ | refine Ws.region ?_ | refine Ws.draw (fun bd hbd => ?_) | refine Ws.cond rfl ?_ | refine Ws.skip ?_ | refine Ws.scope ?_ | refine Ws.block ?_ | refine Ws.exit ?_ | refine Ws.ret ?_)))
    · rw [idxOf_found (z := 0) hic (decide_eq_true (by omega)) (fun j hj => decide_eq_false (hb j hj))]
      (refine FnEnd.ret (F' := F) (vs := [_]) (by (first | refine ResF.tmp inW ?_ | refine ResF.cell rfl inF inP ?_); exact ResF.nil) inS ⟨?_, rfl⟩)
      rfl
    · refine ⟨i + 1, ⟨rfl, rfl, rfl, rfl, trivial⟩, inS, ⟨hic, fun j hj => ?_⟩, by show _ - (i + 1) < _ - i; omega⟩
      rcases Nat.lt_succ_iff_lt_or_eq.1 hj with hj | rfl
      · exact hb j hj
      · omega
  · rw [idxOf_none (p := fun z => decide (z = n)) (z := 0) (fun j hj => decide_eq_false (hb j (by omega)))]
    (repeat' (first | (first | refine Wo.nil ?_ | refine Wd.nil ?_ | ((first | refine Wo.cons ?_ | refine Wd.cons ?_); (try refine W1.go rfl rfl ?_); ((first | refine k1 ?_ | refine k2 ?_ | (refine isDst 7 ?_; refine W1.lenI hr rfl ?_) | (refine isDst 9 ?_; refine W1.cO ?_) | (refine isDst 14 ?_; refine W1.iaddrI hr rfl rfl hic (fun b o l' own hm h1 => ?_)) | (refine isDst 15 ?_; refine W1.load1 rfl hm h1 ?_) | refine W1.auto ?_ | ((first | refine kA ?_ | refine kB ?_ | refine kC ?_ | refine kD ?_ | refine kE ?_ | refine kF ?_ | refine kG ?_); refine ⟨fun _ => ?_, fun _ => ?_⟩)) <;> (try refine ⟨fun _ => rfl, ?_⟩)))) | (first | refine Ws.seq ?_ | refine Ws.region ?_ | refine Ws.draw (fun bd hbd => ?_) | refine Ws.cond rfl ?_ | refine Ws.skip ?_ | refine Ws.scope ?_ | refine Ws.block ?_ | refine Ws.exit ?_ | refine Ws.ret ?_)))
    (refine FnEnd.ret (F' := F) (vs := [_]) (by (first | refine ResF.tmp inW ?_ | refine ResF.cell rfl inF inP ?_); exact ResF.nil) inS ⟨?_, rfl⟩)
    rfl
theorem hasT_any {l : List Int} {n : Int} : l.any (fun z => decide (z = n)) = hasT l n := by
  rw [Bool.eq_iff_iff, List.any_eq_true]
  unfold hasT
  rw [decide_eq_true_eq]
  exact ⟨fun ⟨x, h, e⟩ => by rw [decide_eq_true_eq] at e; exact e ▸ h, fun h => ⟨n, h, decide_eq_true rfl⟩⟩
theorem f64_ok {l : List Int} {n : Int} {v : AV} (hr : RowI F v l) (hl : l.length ≤ 9223372036854775807) : Pure tblW (fnv 64) [v, .int .i64 n] F (.bool (hasT l n)) := by
  intro lo
  refine Fn.func (fn := af64) rfl rfl ?_
  have hi := idxOf_any (fun z => decide (z = n)) l
  rw [← hasT_any]
  (repeat' (first | (first | refine Wo.nil ?_ | refine Wd.nil ?_ | ((first | refine Wo.cons ?_ | refine Wd.cons ?_); (try refine W1.go rfl rfl ?_); ((first | refine k1 ?_ | refine k2 ?_ | (refine isCall ?_; refine W1.pure rfl rfl (f84_ok hr hl) ?_) | refine W1.auto ?_ | ((first | refine kA ?_ | refine kB ?_ | refine kC ?_ | refine kD ?_ | refine kE ?_ | refine kF ?_ | refine kG ?_); refine ⟨fun _ => ?_, fun _ => ?_⟩)) <;> (try refine ⟨fun _ => rfl, ?_⟩)))) | (first | refine Ws.seq ?_ | refine Ws.region ?_ | refine Ws.draw (fun bd hbd => ?_) | refine Ws.cond rfl ?_ | refine Ws.skip ?_ | refine Ws.scope ?_ | refine Ws.block ?_ | refine Ws.exit ?_ | refine Ws.ret ?_)))
  all_goals (refine FnEnd.ret (F' := F) (vs := [_]) (by (first | refine ResF.tmp inW ?_ | refine ResF.cell rfl inF inP ?_); exact ResF.nil) inS ⟨?_, rfl⟩)
  · have : l.any (fun z => decide (z = n)) = true := hi.1 (by assumption)
    rw [this]; rfl
  · have : ¬ l.any (fun z => decide (z = n)) = true := fun h => by have := hi.2 h; omega
    rw [Bool.not_eq_true] at this
    rw [this]; rfl
end Go.Ax
