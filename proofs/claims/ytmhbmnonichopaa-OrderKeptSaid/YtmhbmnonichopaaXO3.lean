/-
  Contracts of the checks of a kind: which kinds are valid.
-/
import Derived.Test.YtmhbmnonichopaaXO2
namespace Go.Ax
set_option maxHeartbeats 4000000
set_option linter.unusedSimpArgs false
set_option linter.unusedVariables false
variable {lo : Nat} {F : Hp}

structure K where
  cap : Int
  load : Int
  most : Int
  slo : Int
  shi : Int
  sales : List (Int × Int)
  costs : List Int
abbrev kl (k : K) (sv cv : AV) : List AV := [.int .i64 k.cap, .int .i64 k.load, .int .i64 k.most, .int .i64 k.slo, .int .i64 k.shi, sv, cv]
/-- a kind, as it is laid -/
structure KVal (F : Hp) (k : K) (sv cv : AV) : Prop where
  s : RowR F sv k.sales
  c : RowI F cv k.costs
  ls : k.sales.length ≤ 9223372036854775807
  lc : k.costs.length ≤ 9223372036854775807
theorem KVal.cons {F : Hp} {k : K} {sv cv : AV} {p : Nat × ABlk} (h : KVal F k sv cv) : KVal (p :: F) k sv cv := ⟨h.s.cons, h.c.cons, h.ls, h.lc⟩
theorem KVal.app {F G : Hp} {k : K} {sv cv : AV} (h : KVal F k sv cv) : KVal (G ++ F) k sv cv := ⟨h.s.app, h.c.app, h.ls, h.lc⟩
theorem KVal.mono {F F' : Hp} {k : K} {sv cv : AV} (h : KVal F k sv cv) (hs : F ⊆ F') : KVal F' k sv cv := ⟨h.s.mono hs, h.c.mono hs, h.ls, h.lc⟩
theorem vr_true {l h : Int} {r : Int × Int} : vr l h r = true ↔ l ≤ r.1 ∧ r.1 ≤ r.2 ∧ r.2 ≤ h := by simp only [vr, decide_eq_true_eq]
theorem vr_false {l h : Int} {r : Int × Int} : vr l h r = false ↔ ¬ (l ≤ r.1 ∧ r.1 ≤ r.2 ∧ r.2 ≤ h) := by simp only [vr, decide_eq_false_iff_not]
theorem wi_true {l h : Int} {xs : List Int} : wi l h xs = true ↔ (xs.any fun x => decide (x < l ∨ h < x)) = false := by simp only [wi, Bool.not_eq_eq_eq_not, Bool.not_true]
theorem wi_false {l h : Int} {xs : List Int} : wi l h xs = false ↔ (xs.any fun x => decide (x < l ∨ h < x)) = true := by simp only [wi, Bool.not_eq_eq_eq_not, Bool.not_false]
def chk (k : K) : Int :=
  if k.sales.length = 0 ∨ 20 < k.sales.length then 6
  else if k.costs.length ≠ k.sales.length then 15
  else if k.cap < 1 ∨ 100000 < k.cap ∨ k.load < 1 ∨ 100000 < k.load ∨ k.most < 0 ∨ 10 < k.most ∨ k.slo < 0 ∨ k.shi < k.slo ∨ k.cap < k.shi then 2
  else if (k.sales.any fun r => !vr 0 100000 r) = true ∨ (k.costs.any fun x => decide (x < 0 ∨ 100000 < x)) = true then 3
  else 0

theorem f46_ok {b : Nat} {o : Bool} {k : K} {sv cv : AV} {x : Int} (hm : (b, .cells (kl k sv cv) o) ∈ F) : Pure tblW (.fn (.func 46) [] [.ptr (some (b, 0))]) [.int .i64 x] F (.bool (decide (x < 0 ∨ k.most < x))) := by
  intro lo
  refine Fn.func (fn := af46) rfl rfl ?_
  (repeat' (first | (first | refine Wo.nil ?_ | refine Wd.nil ?_ | ((first | refine Wo.cons ?_ | refine Wd.cons ?_); (try refine W1.go rfl rfl ?_); ((first | refine k1 ?_ | refine k2 ?_ | refine W1.auto ?_ | ((first | refine kA ?_ | refine kB ?_ | refine kC ?_ | refine kD ?_ | refine kE ?_ | refine kF ?_ | refine kG ?_); refine ⟨fun _ => ?_, fun _ => ?_⟩) | refine W1.alloc (fun _ _ => ?_) | refine W1.boxA rfl (fun _ _ => ?_) | refine kq (fun _ _ => ?_) | refine kp ?_ | (refine isIaddrs ?_; first | refine W1.iaddrI inI rfl rfl (by omega) (fun _ _ _ _ _ _ => ?_) | refine W1.iaddrR inR rfl rfl (by omega) (fun _ _ _ _ _ _ _ => ?_)) | (refine isBox ?_; refine W1.boxS inW (by rfl) (fun _ _ => ?_)) | (refine isBslice ?_; refine W1.bslice (fill_all inC rfl) (fun _ _ => ?_))) <;> (try refine ⟨fun _ => rfl, ?_⟩)))) | (first | refine Ws.seq ?_ | refine Ws.region ?_ | refine Ws.draw (fun bd hbd => ?_) | refine Ws.cond rfl ?_ | refine Ws.skip ?_ | refine Ws.scope ?_ | refine Ws.block ?_ | refine Ws.exit ?_ | refine Ws.ret ?_)))
  all_goals (refine FnEnd.ret (F' := F) (vs := [_]) (by (first | refine ResF.tmp inW ?_ | refine ResF.cell rfl inF inP ?_); exact ResF.nil) inS ⟨?_, rfl⟩)
  all_goals (simp only [tupOf, AV.bool.injEq]; symm; first | (apply decide_eq_true; omega) | (apply decide_eq_false; omega))
theorem f52_ok {b : Nat} {o : Bool} {k : K} {sv cv : AV} {x : Int} (hm : (b, .cells (kl k sv cv) o) ∈ F) : Pure tblW (.fn (.func 52) [] [.ptr (some (b, 0))]) [.int .i64 x] F (.bool (decide (x < 0 ∨ k.most < x))) := by
  intro lo
  refine Fn.func (fn := af52) rfl rfl ?_
  (repeat' (first | (first | refine Wo.nil ?_ | refine Wd.nil ?_ | ((first | refine Wo.cons ?_ | refine Wd.cons ?_); (try refine W1.go rfl rfl ?_); ((first | refine k1 ?_ | refine k2 ?_ | refine W1.auto ?_ | ((first | refine kA ?_ | refine kB ?_ | refine kC ?_ | refine kD ?_ | refine kE ?_ | refine kF ?_ | refine kG ?_); refine ⟨fun _ => ?_, fun _ => ?_⟩) | refine W1.alloc (fun _ _ => ?_) | refine W1.boxA rfl (fun _ _ => ?_) | refine kq (fun _ _ => ?_) | refine kp ?_ | (refine isIaddrs ?_; first | refine W1.iaddrI inI rfl rfl (by omega) (fun _ _ _ _ _ _ => ?_) | refine W1.iaddrR inR rfl rfl (by omega) (fun _ _ _ _ _ _ _ => ?_)) | (refine isBox ?_; refine W1.boxS inW (by rfl) (fun _ _ => ?_)) | (refine isBslice ?_; refine W1.bslice (fill_all inC rfl) (fun _ _ => ?_))) <;> (try refine ⟨fun _ => rfl, ?_⟩)))) | (first | refine Ws.seq ?_ | refine Ws.region ?_ | refine Ws.draw (fun bd hbd => ?_) | refine Ws.cond rfl ?_ | refine Ws.skip ?_ | refine Ws.scope ?_ | refine Ws.block ?_ | refine Ws.exit ?_ | refine Ws.ret ?_)))
  all_goals (refine FnEnd.ret (F' := F) (vs := [_]) (by (first | refine ResF.tmp inW ?_ | refine ResF.cell rfl inF inP ?_); exact ResF.nil) inS ⟨?_, rfl⟩)
  all_goals (simp only [tupOf, AV.bool.injEq]; symm; first | (apply decide_eq_true; omega) | (apply decide_eq_false; omega))
theorem f14_ok {k : K} {sv cv : AV} (h : KVal F k sv cv) : Pure tblW (fnv 14) [.agg (kl k sv cv)] F (.bool (decide (30 < k.sales.length ∨ 30 < k.costs.length))) := by
  obtain ⟨hs, hc, hls, hlc⟩ := h
  intro lo
  refine Fn.func (fn := af14) rfl rfl ?_
  (repeat' (first | (first | refine Wo.nil ?_ | refine Wd.nil ?_ | ((first | refine Wo.cons ?_ | refine Wd.cons ?_); (try refine W1.go rfl rfl ?_); ((first | refine k1 ?_ | refine k2 ?_ | refine W1.auto ?_ | ((first | refine kA ?_ | refine kB ?_ | refine kC ?_ | refine kD ?_ | refine kE ?_ | refine kF ?_ | refine kG ?_); refine ⟨fun _ => ?_, fun _ => ?_⟩) | refine W1.alloc (fun _ _ => ?_) | refine W1.boxA rfl (fun _ _ => ?_) | refine kq (fun _ _ => ?_) | refine kp ?_ | (refine isIaddrs ?_; first | refine W1.iaddrI inI rfl rfl (by omega) (fun _ _ _ _ _ _ => ?_) | refine W1.iaddrR inR rfl rfl (by omega) (fun _ _ _ _ _ _ _ => ?_)) | (refine isBox ?_; refine W1.boxS inW (by rfl) (fun _ _ => ?_)) | (refine isBslice ?_; refine W1.bslice (fill_all inC rfl) (fun _ _ => ?_))) <;> (try refine ⟨fun _ => rfl, ?_⟩)))) | (first | refine Ws.seq ?_ | refine Ws.region ?_ | refine Ws.draw (fun bd hbd => ?_) | refine Ws.cond rfl ?_ | refine Ws.skip ?_ | refine Ws.scope ?_ | refine Ws.block ?_ | refine Ws.exit ?_ | refine Ws.ret ?_)))
  all_goals (refine FnEnd.ret (F' := F) (vs := [_]) (by (first | refine ResF.tmp inW ?_ | refine ResF.cell rfl inF inP ?_); exact ResF.nil) inS ⟨?_, rfl⟩)
  all_goals (simp only [tupOf, AV.bool.injEq]; symm; first | (apply decide_eq_true; omega) | (apply decide_eq_false; omega))

theorem f20_ok {k : K} {sv cv : AV} (h : KVal F k sv cv) : Pure tblW (fnv 20) [.agg (kl k sv cv)] F (.int .i64 (chk k)) := by
  obtain ⟨hs, hc, hls, hlc⟩ := h
  intro lo
  refine Fn.func (fn := af20) rfl rfl ?_
  (repeat' (first | (first | refine Wo.nil ?_ | refine Wd.nil ?_ | ((first | refine Wo.cons ?_ | refine Wd.cons ?_); (try refine W1.go rfl rfl ?_); ((first | refine k1 ?_ | refine k2 ?_ | (refine isCall ?_; first | refine W1.pureB rfl rfl (f47_ok (xs := [k.cap, k.load]) (RowI.lit inF rfl) (by simp only [List.length_cons, List.length_nil]; omega)) (fun _ => ?_) (fun _ => ?_) | refine W1.pureB rfl rfl (f47_ok (xs := [k.most]) (RowI.lit inF rfl) (by simp only [List.length_cons, List.length_nil]; omega)) (fun _ => ?_) (fun _ => ?_) | refine W1.pureB rfl rfl (f48_ok (r := (k.slo, k.shi))) (fun _ => ?_) (fun _ => ?_) | refine W1.pureB rfl rfl (f49_ok (p := fun r => !vr 0 100000 r) inR hls (fun _ _ => f50_ok)) (fun _ => ?_) (fun _ => ?_) | refine W1.pureB rfl rfl (f47_ok inI hlc) (fun _ => ?_) (fun _ => ?_)) | refine W1.auto ?_ | ((first | refine kA ?_ | refine kB ?_ | refine kC ?_ | refine kD ?_ | refine kE ?_ | refine kF ?_ | refine kG ?_); refine ⟨fun _ => ?_, fun _ => ?_⟩) | refine W1.alloc (fun _ _ => ?_) | refine W1.boxA rfl (fun _ _ => ?_) | refine kq (fun _ _ => ?_) | refine kp ?_ | (refine isIaddrs ?_; first | refine W1.iaddrI inI rfl rfl (by omega) (fun _ _ _ _ _ _ => ?_) | refine W1.iaddrR inR rfl rfl (by omega) (fun _ _ _ _ _ _ _ => ?_)) | (refine isBox ?_; refine W1.boxS inW (by rfl) (fun _ _ => ?_)) | (refine isBslice ?_; refine W1.bslice (fill_all inC rfl) (fun _ _ => ?_))) <;> (try refine ⟨fun _ => rfl, ?_⟩)))) | (first | refine Ws.seq ?_ | refine Ws.region ?_ | refine Ws.draw (fun bd hbd => ?_) | refine Ws.cond rfl ?_ | refine Ws.skip ?_ | refine Ws.scope ?_ | refine Ws.block ?_ | refine Ws.exit ?_ | refine Ws.ret ?_)))
  all_goals (refine FnEnd.ret (F' := F) (vs := [_]) (by (first | refine ResF.tmp inW ?_ | refine ResF.cell rfl inF inP ?_); exact ResF.nil) inS ⟨?_, rfl⟩)
  all_goals (try simp only [wi1, wi2, vr_true, vr_false, wi_true, wi_false, decide_eq_true_eq, decide_eq_false_iff_not] at *)
  all_goals (show AV.int .i64 _ = AV.int .i64 _; congr 1; unfold chk)
  all_goals (repeat (first | rw [if_pos (by first | omega | exact .inl (by assumption) | exact .inr (by assumption))] | rw [if_neg (by first | omega | (rintro (h | h) <;> exact absurd (h.symm.trans (show _ = false by assumption)) (fun e => (by cases e))))]))

def badDay (k : K) (i : Nat) : Prop := vr 0 100000 (k.sales.getD i (0, 0)) = false ∨ k.costs.getD i 0 < 0 ∨ 100000 < k.costs.getD i 0
theorem bad_any {k : K} (hl : k.costs.length = k.sales.length) : ((k.sales.any fun r => !vr 0 100000 r) = true ∨ (k.costs.any fun x => decide (x < 0 ∨ 100000 < x)) = true) ↔ ∃ i, i < k.sales.length ∧ badDay k i := by
  rw [any_getD _ _ (0, 0), any_getD _ _ 0]
  constructor
  · rintro (⟨j, hj, h⟩ | ⟨j, hj, h⟩)
    · exact ⟨j, hj, .inl (by simpa using h)⟩
    · exact ⟨j, by omega, .inr (by simpa using h)⟩
  · rintro ⟨j, hj, h | h⟩
    · exact .inl ⟨j, hj, by simpa using h⟩
    · exact .inr ⟨j, by omega, by simpa using h⟩
theorem f21_ok {k : K} {sv cv : AV} (h : KVal F k sv cv) : Pure tblW (fnv 21) [.agg (kl k sv cv)] F (.int .i64 (chk k)) := by
  obtain ⟨hs, hc, hls, hlc⟩ := h
  intro lo
  refine Fn.func (fn := af21) rfl rfl ?_
  have i := 0
  (repeat' (first | (first | refine Wo.nil ?_ | refine Wd.nil ?_ | ((first | refine Wo.cons ?_ | refine Wd.cons ?_); (try refine W1.go rfl rfl ?_); ((first | refine k1 ?_ | refine k2 ?_ | (refine isCall ?_; first | refine W1.pureB rfl rfl (f51_ok (r := (k.slo, k.shi))) (fun _ => ?_) (fun _ => ?_) | refine W1.pureB rfl rfl (f51_ok (r := k.sales.getD i (0, 0))) (fun _ => ?_) (fun _ => ?_)) | refine W1.auto ?_ | ((first | refine kA ?_ | refine kB ?_ | refine kC ?_ | refine kD ?_ | refine kE ?_ | refine kF ?_ | refine kG ?_); refine ⟨fun _ => ?_, fun _ => ?_⟩) | refine W1.alloc (fun _ _ => ?_) | refine W1.boxA rfl (fun _ _ => ?_) | refine kq (fun _ _ => ?_) | refine kp ?_ | (refine isIaddrs ?_; first | refine W1.iaddrI inI rfl rfl (by omega) (fun _ _ _ _ _ _ => ?_) | refine W1.iaddrR inR rfl rfl (by omega) (fun _ _ _ _ _ _ _ => ?_)) | (refine isBox ?_; refine W1.boxS inW (by rfl) (fun _ _ => ?_)) | (refine isBslice ?_; refine W1.bslice (fill_all inC rfl) (fun _ _ => ?_))) <;> (try refine ⟨fun _ => rfl, ?_⟩)))) | (first | refine Ws.seq ?_ | refine Ws.region ?_ | refine Ws.draw (fun bd hbd => ?_) | refine Ws.cond rfl ?_ | refine Ws.skip ?_ | refine Ws.scope ?_ | refine Ws.block ?_ | refine Ws.exit ?_ | refine Ws.ret ?_)))
  all_goals (try ((refine FnEnd.ret (F' := F) (vs := [_]) (by (first | refine ResF.tmp inW ?_ | refine ResF.cell rfl inF inP ?_); exact ResF.nil) inS ⟨?_, rfl⟩); (try simp only [wi1, wi2, vr_true, vr_false, wi_true, wi_false, decide_eq_true_eq, decide_eq_false_iff_not] at *); (show AV.int .i64 _ = AV.int .i64 _; congr 1; unfold chk); (repeat (first | rw [if_pos (by first | omega | exact .inl (by assumption) | exact .inr (by assumption))] | rw [if_neg (by first | omega | (rintro (h | h) <;> exact absurd (h.symm.trans (show _ = false by assumption)) (fun e => (by cases e))))])); done))
  clear i
  rename_i b hlo a1 a2 a3 a4 a5 a6 a7 a8 a9 a10
  rw [vr_true] at a10
  simp only at a10
  have c3 : (∃ i, i < k.sales.length ∧ badDay k i) → chk k = 3 := by
    intro h
    have h := (bad_any (k := k) (by omega)).2 h
    unfold chk
    (repeat (first | rw [if_pos (by first | omega | exact .inl (by assumption) | exact .inr (by assumption))] | rw [if_neg (by first | omega | (rintro (h | h) <;> exact absurd (h.symm.trans (show _ = false by assumption)) (fun e => (by cases e))))]))
  have c0 : (∀ i, i < k.sales.length → ¬ badDay k i) → chk k = 0 := by
    intro h
    have h : ¬ ((k.sales.any fun r => !vr 0 100000 r) = true ∨ (k.costs.any fun x => decide (x < 0 ∨ 100000 < x)) = true) := fun h' => by
      obtain ⟨i, hi, hb⟩ := (bad_any (k := k) (by omega)).1 h'
      exact h i hi hb
    unfold chk
    rw [if_neg h]
    (repeat (first | rw [if_pos (by first | omega | exact .inl (by assumption) | exact .inr (by assumption))] | rw [if_neg (by first | omega | (rintro (h | h) <;> exact absurd (h.symm.trans (show _ = false by assumption)) (fun e => (by cases e))))]))
  refine Ws.loopG (X := Nat) (fun i => [(1, .ptr (some (b, 0))), (3, .int .i64 (i : Nat))]) (fun _ => (b, .cells (kl k sv cv) true) :: F) (fun i => i ≤ k.sales.length ∧ ∀ j, j < i → ¬ badDay k j) (fun i => k.sales.length - i) 0
    ⟨rfl, rfl, trivial⟩ inS ⟨Nat.zero_le _, fun j hj => absurd hj (Nat.not_lt_zero j)⟩ ?_
  rintro i B ⟨hi, hb⟩
  (repeat' (first | (first | refine Wo.nil ?_ | refine Wd.nil ?_ | ((first | refine Wo.cons ?_ | refine Wd.cons ?_); (try refine W1.go rfl rfl ?_); ((first | refine k1 ?_ | refine k2 ?_ | (refine isCall ?_; first | refine W1.pureB rfl rfl (f51_ok (r := (k.slo, k.shi))) (fun _ => ?_) (fun _ => ?_) | refine W1.pureB rfl rfl (f51_ok (r := k.sales.getD i (0, 0))) (fun _ => ?_) (fun _ => ?_)) | refine W1.auto ?_ | ((first | refine kA ?_ | refine kB ?_ | refine kC ?_ | refine kD ?_ | refine kE ?_ | refine kF ?_ | refine kG ?_); refine ⟨fun _ => ?_, fun _ => ?_⟩) | refine W1.alloc (fun _ _ => ?_) | refine W1.boxA rfl (fun _ _ => ?_) | refine kq (fun _ _ => ?_) | refine kp ?_ | (refine isIaddrs ?_; first | refine W1.iaddrI inI rfl rfl (by omega) (fun _ _ _ _ _ _ => ?_) | refine W1.iaddrR inR rfl rfl (by omega) (fun _ _ _ _ _ _ _ => ?_)) | (refine isBox ?_; refine W1.boxS inW (by rfl) (fun _ _ => ?_)) | (refine isBslice ?_; refine W1.bslice (fill_all inC rfl) (fun _ _ => ?_))) <;> (try refine ⟨fun _ => rfl, ?_⟩)))) | (first | refine Ws.seq ?_ | refine Ws.region ?_ | refine Ws.draw (fun bd hbd => ?_) | refine Ws.cond rfl ?_ | refine Ws.skip ?_ | refine Ws.scope ?_ | refine Ws.block ?_ | refine Ws.exit ?_ | refine Ws.ret ?_)))
  all_goals (try ((refine FnEnd.ret (F' := F) (vs := [_]) (by (first | refine ResF.tmp inW ?_ | refine ResF.cell rfl inF inP ?_); exact ResF.nil) inS ⟨?_, rfl⟩); (show AV.int .i64 _ = AV.int .i64 _); rw [c3 ⟨i, by omega, by first | exact .inl (by assumption) | exact .inr (.inl (by assumption)) | exact .inr (.inr (by assumption))⟩]; done))
  · refine ⟨i + 1, ⟨rfl, rfl, trivial⟩, inS, ⟨by omega, fun j hj => ?_⟩, by omega⟩
    rcases Nat.lt_succ_iff_lt_or_eq.1 hj with h | rfl
    · exact hb j h
    · rintro (h | h | h)
      · exact absurd (h.symm.trans (show _ = true by assumption)) (fun e => (by cases e))
      · omega
      · omega
  · (refine FnEnd.ret (F' := F) (vs := [_]) (by (first | refine ResF.tmp inW ?_ | refine ResF.cell rfl inF inP ?_); exact ResF.nil) inS ⟨?_, rfl⟩)
    show AV.int .i64 _ = AV.int .i64 _
    rw [c0 (fun j hj => hb j (by omega))]
end Go.Ax
