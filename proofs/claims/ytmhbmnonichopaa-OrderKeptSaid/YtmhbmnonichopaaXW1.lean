/-
  Contracts: more of the laws' helpers: ranges, sums, which list comes first.
-/
import Derived.Test.YtmhbmnonichopaaXW0
import Derived.Test.YtmhbmnonichopaaXM3
namespace Go.Ax
set_option maxHeartbeats 4000000
set_option maxRecDepth 2000
set_option linter.unusedSimpArgs false
set_option linter.unusedVariables false
variable {lo : Nat} {F : Hp}

theorem ownC {uno : List (Nat × Nat)} {cs : List Cls} {i : Nat} {l : List Nat} {P Q : Prop} (h : (P → okC uno cs i (.own l) = true) ∧ Q) : (P → okC uno cs i (.own l) = true) ∧ Q := h
/-- blocks that are known not to be the same -/
theorem inO {P : Prop} (h : P := by (intro nd; simp only [List.map_cons, List.map_append, List.nodup_cons, List.nodup_append, List.mem_cons, List.mem_append, not_or, eq_comm (α := Nat)] at nd; simp (decide := true) [okC, okP, apart_iff, eq_comm (α := Nat), nd])) : P := h
theorem f40_ok {a b : Int} : Pure tblW (fnv 40) [.int .i64 a, .int .i64 b] F (.agg [.int .i64 a, .int .i64 b]) := by
  intro lo
  refine Fn.func (fn := af40) rfl rfl ?_
  (repeat' (first | (first | refine Wo.nil ?_ | refine Wd.nil ?_ | ((first | refine Wo.cons ?_ | refine Wd.cons ?_); (try refine W1.go rfl rfl ?_); ((first | refine k1 ?_ | refine k2 ?_ | refine W1.auto ?_ | ((first | refine kA ?_ | refine kB ?_ | refine kC ?_ | refine kD ?_ | refine kE ?_ | refine kF ?_ | refine kG ?_); refine ⟨fun _ => ?_, fun _ => ?_⟩) | refine W1.alloc (fun _ _ => ?_) | refine W1.boxA rfl (fun _ _ => ?_) | refine kq (fun _ _ => ?_) | refine kp ?_ | (refine isIaddrs ?_; first | refine W1.iaddrI inI rfl rfl (by omega) (fun _ _ _ _ _ _ => ?_) | refine W1.iaddrR inR rfl rfl (by omega) (fun _ _ _ _ _ _ _ => ?_)) | (refine isBox ?_; refine W1.boxS inW (by rfl) (fun _ _ => ?_)) | (refine isBslice ?_; refine W1.bslice (fill_all inC rfl) (fun _ _ => ?_))) <;> (try refine ⟨fun _ => rfl, ?_⟩)))) | (first | refine Ws.seq ?_ | refine Ws.region ?_ | refine Ws.draw (fun bd hbd => ?_) | refine Ws.cond rfl ?_ | refine Ws.skip ?_ | refine Ws.scope ?_ | refine Ws.block ?_ | refine Ws.exit ?_ | refine Ws.ret ?_)))
  (refine FnEnd.ret (F' := F) (vs := [_]) (by (first | refine ResF.tmp inW ?_ | refine ResF.cell rfl inF inP ?_); exact ResF.nil) inS ⟨?_, rfl⟩)
  rfl
/-- a range that is narrower -/
def narrowR (r : Int × Int) (a b : Int) : Int × Int := (min r.2 (r.1 + a), max (min r.2 (r.1 + a)) (r.2 - b))
theorem f38_ok {r1 r2 a b : Int} (h1 : 0 ≤ r1 ∧ r1 ≤ r2 ∧ r2 ≤ 100000) (ha : 0 ≤ a ∧ a ≤ 4294967295) (hb : 0 ≤ b ∧ b ≤ 4294967295) : Pure tblW (fnv 38) [.agg [.int .i64 r1, .int .i64 r2], .int .u32 a, .int .u32 b] F (.agg [.int .i64 (narrowR (r1, r2) a b).1, .int .i64 (narrowR (r1, r2) a b).2]) := by
  intro lo
  refine Fn.func (fn := af38) rfl rfl ?_
  (repeat' (first | (first | refine Wo.nil ?_ | refine Wd.nil ?_ | ((first | refine Wo.cons ?_ | refine Wd.cons ?_); (try refine W1.go rfl rfl ?_); ((first | refine k1 ?_ | refine k2 ?_ | (refine isConv ?_; refine W1.convI rfl (by omega) ?_) | refine W1.auto ?_ | ((first | refine kA ?_ | refine kB ?_ | refine kC ?_ | refine kD ?_ | refine kE ?_ | refine kF ?_ | refine kG ?_); refine ⟨fun _ => ?_, fun _ => ?_⟩) | refine W1.alloc (fun _ _ => ?_) | refine W1.boxA rfl (fun _ _ => ?_) | refine kq (fun _ _ => ?_) | refine kp ?_ | (refine isIaddrs ?_; first | refine W1.iaddrI inI rfl rfl (by omega) (fun _ _ _ _ _ _ => ?_) | refine W1.iaddrR inR rfl rfl (by omega) (fun _ _ _ _ _ _ _ => ?_)) | (refine isBox ?_; refine W1.boxS inW (by rfl) (fun _ _ => ?_)) | (refine isBslice ?_; refine W1.bslice (fill_all inC rfl) (fun _ _ => ?_))) <;> (try refine ⟨fun _ => rfl, ?_⟩)))) | (first | refine Ws.seq ?_ | refine Ws.region ?_ | refine Ws.draw (fun bd hbd => ?_) | refine Ws.cond rfl ?_ | refine Ws.skip ?_ | refine Ws.scope ?_ | refine Ws.block ?_ | refine Ws.exit ?_ | refine Ws.ret ?_)))
  (refine FnEnd.ret (F' := F) (vs := [_]) (by (first | refine ResF.tmp inW ?_ | refine ResF.cell rfl inF inP ?_); exact ResF.nil) inS ⟨?_, rfl⟩)
  rfl
theorem f39_ok {v : AV} {p : List Int} (hp : RowI F v p) (hl : p.length ≤ 1000) (hd : ∀ d, d < p.length → 0 ≤ p.getD d 0 ∧ p.getD d 0 ≤ 1000) : Pure tblW (fnv 39) [v] F (.int .i64 (pl p p.length)) := by
  intro lo
  refine Fn.func (fn := af39) rfl rfl ?_
  (repeat' (first | (first | refine Wo.nil ?_ | refine Wd.nil ?_ | ((first | refine Wo.cons ?_ | refine Wd.cons ?_); (try refine W1.go rfl rfl ?_); ((first | refine k1 ?_ | refine k2 ?_ | refine W1.cO ?_ | refine W1.auto ?_ | ((first | refine kA ?_ | refine kB ?_ | refine kC ?_ | refine kD ?_ | refine kE ?_ | refine kF ?_ | refine kG ?_); refine ⟨fun _ => ?_, fun _ => ?_⟩) | refine W1.alloc (fun _ _ => ?_) | refine W1.boxA rfl (fun _ _ => ?_) | refine kq (fun _ _ => ?_) | refine kp ?_ | (refine isIaddrs ?_; first | refine W1.iaddrI inI rfl rfl (by omega) (fun _ _ _ _ _ _ => ?_) | refine W1.iaddrR inR rfl rfl (by omega) (fun _ _ _ _ _ _ _ => ?_)) | (refine isBox ?_; refine W1.boxS inW (by rfl) (fun _ _ => ?_)) | (refine isBslice ?_; refine W1.bslice (fill_all inC rfl) (fun _ _ => ?_))) <;> (try refine ⟨fun _ => rfl, ?_⟩)))) | (first | refine Ws.seq ?_ | refine Ws.region ?_ | refine Ws.draw (fun bd hbd => ?_) | refine Ws.cond rfl ?_ | refine Ws.skip ?_ | refine Ws.scope ?_ | refine Ws.block ?_ | refine Ws.exit ?_ | refine Ws.ret ?_)))
  refine Ws.loopD 131064 rfl [(0, _)] ⟨inW, trivial⟩ [0] rfl rfl (X := Nat) (fun i => [(3, .int .i64 (pl p i)), (4, .int .i64 (i : Nat))]) (fun _ => F) (fun i => i ≤ p.length ∧ 0 ≤ pl p i ∧ pl p i ≤ 1000 * (i : Int)) (fun i => p.length - i) 0 ⟨rfl, rfl, trivial⟩ inS ⟨Nat.zero_le _, Int.le_refl _, by simp [pl]⟩ ?_
  rintro i B ⟨hi, h0, h1⟩
  by_cases hin : i < p.length
  · have hdi := hd i hin
    (repeat' (first | (first | refine Wo.nil ?_ | refine Wd.nil ?_ | ((first | refine Wo.cons ?_ | refine Wd.cons ?_); (try refine W1.go rfl rfl ?_); ((first | refine k1 ?_ | refine k2 ?_ | refine W1.cO ?_ | refine W1.auto ?_ | ((first | refine kA ?_ | refine kB ?_ | refine kC ?_ | refine kD ?_ | refine kE ?_ | refine kF ?_ | refine kG ?_); refine ⟨fun _ => ?_, fun _ => ?_⟩) | refine W1.alloc (fun _ _ => ?_) | refine W1.boxA rfl (fun _ _ => ?_) | refine kq (fun _ _ => ?_) | refine kp ?_ | (refine isIaddrs ?_; first | refine W1.iaddrI inI rfl rfl (by omega) (fun _ _ _ _ _ _ => ?_) | refine W1.iaddrR inR rfl rfl (by omega) (fun _ _ _ _ _ _ _ => ?_)) | (refine isBox ?_; refine W1.boxS inW (by rfl) (fun _ _ => ?_)) | (refine isBslice ?_; refine W1.bslice (fill_all inC rfl) (fun _ _ => ?_))) <;> (try refine ⟨fun _ => rfl, ?_⟩)))) | (first | refine Ws.seq ?_ | refine Ws.region ?_ | refine Ws.draw (fun bd hbd => ?_) | refine Ws.cond rfl ?_ | refine Ws.skip ?_ | refine Ws.scope ?_ | refine Ws.block ?_ | refine Ws.exit ?_ | refine Ws.ret ?_)))
    exact ⟨i + 1, ⟨rfl, rfl, trivial⟩, inS, ⟨by show i + 1 ≤ _; omega, by show 0 ≤ pl p i + p.getD i 0; omega, by show pl p i + p.getD i 0 ≤ 1000 * ((i + 1 : Nat) : Int); omega⟩, by show _ - (i + 1) < _; omega⟩
  · have e : i = p.length := by omega
    subst e
    (repeat' (first | (first | refine Wo.nil ?_ | refine Wd.nil ?_ | ((first | refine Wo.cons ?_ | refine Wd.cons ?_); (try refine W1.go rfl rfl ?_); ((first | refine k1 ?_ | refine k2 ?_ | refine W1.cO ?_ | refine W1.auto ?_ | ((first | refine kA ?_ | refine kB ?_ | refine kC ?_ | refine kD ?_ | refine kE ?_ | refine kF ?_ | refine kG ?_); refine ⟨fun _ => ?_, fun _ => ?_⟩) | refine W1.alloc (fun _ _ => ?_) | refine W1.boxA rfl (fun _ _ => ?_) | refine kq (fun _ _ => ?_) | refine kp ?_ | (refine isIaddrs ?_; first | refine W1.iaddrI inI rfl rfl (by omega) (fun _ _ _ _ _ _ => ?_) | refine W1.iaddrR inR rfl rfl (by omega) (fun _ _ _ _ _ _ _ => ?_)) | (refine isBox ?_; refine W1.boxS inW (by rfl) (fun _ _ => ?_)) | (refine isBslice ?_; refine W1.bslice (fill_all inC rfl) (fun _ _ => ?_))) <;> (try refine ⟨fun _ => rfl, ?_⟩)))) | (first | refine Ws.seq ?_ | refine Ws.region ?_ | refine Ws.draw (fun bd hbd => ?_) | refine Ws.cond rfl ?_ | refine Ws.skip ?_ | refine Ws.scope ?_ | refine Ws.block ?_ | refine Ws.exit ?_ | refine Ws.ret ?_)))
    (refine FnEnd.ret (F' := F) (vs := [_]) (by (first | refine ResF.tmp inW ?_ | refine ResF.cell rfl inF inP ?_); exact ResF.nil) inS ⟨?_, rfl⟩)
    rfl
theorem before_skip : ∀ {i : Nat} {a b : List Int}, i ≤ a.length → i ≤ b.length → (∀ j, j < i → a.getD j 0 = b.getD j 0) → before a b = before (a.drop i) (b.drop i)
  | 0, _, _, _, _, _ => rfl
  | i + 1, [], _, h, _, _ => absurd h (by simp)
  | i + 1, _ :: _, [], _, h, _ => absurd h (by simp)
  | i + 1, x :: a, y :: b, h1, h2, h => by
    have h0 := h 0 (by omega)
    have ih := before_skip (i := i) (a := a) (b := b) (by simpa using h1) (by simpa using h2) (fun j hj => by simpa using h (j + 1) (by omega))
    simp only [List.getD_cons_zero] at h0
    rw [before, if_pos h0, ih]
    rfl
theorem before_at {i : Nat} {a b : List Int} (h1 : i < a.length) (h2 : i < b.length) (h : ∀ j, j < i → a.getD j 0 = b.getD j 0) (hne : a.getD i 0 ≠ b.getD i 0) : before a b = decide (a.getD i 0 < b.getD i 0) := by
  rw [before_skip (by omega) (by omega) h]
  have e1 : a.drop i = a.getD i 0 :: a.drop (i + 1) := by rw [List.drop_eq_getElem_cons h1]; simp [List.getD, List.getElem?_eq_getElem h1]
  have e2 : b.drop i = b.getD i 0 :: b.drop (i + 1) := by rw [List.drop_eq_getElem_cons h2]; simp [List.getD, List.getElem?_eq_getElem h2]
  rw [e1, e2, before, if_neg hne]
theorem before_end {i : Nat} {a b : List Int} (h1 : i ≤ a.length) (h2 : i ≤ b.length) (he : i = a.length ∨ i = b.length) (h : ∀ j, j < i → a.getD j 0 = b.getD j 0) : before a b = decide (a.length < b.length) := by
  rw [before_skip h1 h2 h]
  rcases he with rfl | rfl
  · rw [List.drop_length]
    cases hb : b.drop a.length with
    | nil =>
      have : b.length ≤ a.length := by have := congrArg List.length hb; simp at this; omega
      rw [decide_eq_false (by omega)]; rfl
    | cons y ys =>
      have : a.length < b.length := by have := congrArg List.length hb; simp at this; omega
      rw [decide_eq_true this]; rfl
  · rw [List.drop_length]
    cases ha : a.drop b.length with
    | nil =>
      have : a.length ≤ b.length := by have := congrArg List.length ha; simp at this; omega
      rw [decide_eq_false (by omega)]; rfl
    | cons y ys =>
      have : b.length < a.length := by have := congrArg List.length ha; simp at this; omega
      rw [decide_eq_false (by omega)]; rfl
theorem f37_ok {u v : AV} {a b : List Int} (hu : RowI F u a) (hv : RowI F v b) (hla : a.length ≤ 9223372036854775806) (hlb : b.length ≤ 9223372036854775806) : Pure tblW (fnv 37) [u, v] F (.bool (before a b)) := by
  intro lo
  refine Fn.func (fn := af37) rfl rfl ?_
  (repeat' (first | (first | refine Wo.nil ?_ | refine Wd.nil ?_ | ((first | refine Wo.cons ?_ | refine Wd.cons ?_); (try refine W1.go rfl rfl ?_); ((first | refine k1 ?_ | refine k2 ?_ | refine W1.cO ?_ | refine W1.auto ?_ | ((first | refine kA ?_ | refine kB ?_ | refine kC ?_ | refine kD ?_ | refine kE ?_ | refine kF ?_ | refine kG ?_); refine ⟨fun _ => ?_, fun _ => ?_⟩) | refine W1.alloc (fun _ _ => ?_) | refine W1.boxA rfl (fun _ _ => ?_) | refine kq (fun _ _ => ?_) | refine kp ?_ | (refine isIaddrs ?_; first | refine W1.iaddrI inI rfl rfl (by omega) (fun _ _ _ _ _ _ => ?_) | refine W1.iaddrR inR rfl rfl (by omega) (fun _ _ _ _ _ _ _ => ?_)) | (refine isBox ?_; refine W1.boxS inW (by rfl) (fun _ _ => ?_)) | (refine isBslice ?_; refine W1.bslice (fill_all inC rfl) (fun _ _ => ?_))) <;> (try refine ⟨fun _ => rfl, ?_⟩)))) | (first | refine Ws.seq ?_ | refine Ws.region ?_ | refine Ws.draw (fun bd hbd => ?_) | refine Ws.cond rfl ?_ | refine Ws.skip ?_ | refine Ws.scope ?_ | refine Ws.block ?_ | refine Ws.exit ?_ | refine Ws.ret ?_)))
  refine Ws.loopD 68719476720 rfl [(0, _), (1, _)] ⟨inW, inW, trivial⟩ [0, 1] rfl rfl (X := Nat) (fun i => [(5, .int .i64 (i : Nat))]) (fun _ => F) (fun i => i ≤ a.length ∧ i ≤ b.length ∧ ∀ j, j < i → a.getD j 0 = b.getD j 0) (fun i => a.length - i) 0 ⟨rfl, trivial⟩ inS ⟨Nat.zero_le _, Nat.zero_le _, fun j hj => absurd hj (Nat.not_lt_zero j)⟩ ?_
  rintro i B ⟨h1, h2, h⟩
  (repeat' (first | (first | refine Wo.nil ?_ | refine Wd.nil ?_ | ((first | refine Wo.cons ?_ | refine Wd.cons ?_); (try refine W1.go rfl rfl ?_); ((first | refine k1 ?_ | refine k2 ?_ | refine W1.cO ?_ | refine W1.auto ?_ | ((first | refine kA ?_ | refine kB ?_ | refine kC ?_ | refine kD ?_ | refine kE ?_ | refine kF ?_ | refine kG ?_); refine ⟨fun _ => ?_, fun _ => ?_⟩) | refine W1.alloc (fun _ _ => ?_) | refine W1.boxA rfl (fun _ _ => ?_) | refine kq (fun _ _ => ?_) | refine kp ?_ | (refine isIaddrs ?_; first | refine W1.iaddrI inI rfl rfl (by omega) (fun _ _ _ _ _ _ => ?_) | refine W1.iaddrR inR rfl rfl (by omega) (fun _ _ _ _ _ _ _ => ?_)) | (refine isBox ?_; refine W1.boxS inW (by rfl) (fun _ _ => ?_)) | (refine isBslice ?_; refine W1.bslice (fill_all inC rfl) (fun _ _ => ?_))) <;> (try refine ⟨fun _ => rfl, ?_⟩)))) | (first | refine Ws.seq ?_ | refine Ws.region ?_ | refine Ws.draw (fun bd hbd => ?_) | refine Ws.cond rfl ?_ | refine Ws.skip ?_ | refine Ws.scope ?_ | refine Ws.block ?_ | refine Ws.exit ?_ | refine Ws.ret ?_)))
  · (refine FnEnd.ret (F' := F) (vs := [_]) (by (first | refine ResF.tmp inW ?_ | refine ResF.cell rfl inF inP ?_); exact ResF.nil) inS ⟨?_, rfl⟩)
    rw [before_at (i := i) (by omega) (by omega) h (by assumption)]
    (simp only [tupOf, AV.bool.injEq]; symm; first | (apply decide_eq_true; omega) | (apply decide_eq_false; omega))
  · (refine FnEnd.ret (F' := F) (vs := [_]) (by (first | refine ResF.tmp inW ?_ | refine ResF.cell rfl inF inP ?_); exact ResF.nil) inS ⟨?_, rfl⟩)
    rw [before_at (i := i) (by omega) (by omega) h (by assumption)]
    (simp only [tupOf, AV.bool.injEq]; symm; first | (apply decide_eq_true; omega) | (apply decide_eq_false; omega))
  · refine ⟨i + 1, ⟨rfl, trivial⟩, inS, ⟨by show i + 1 ≤ _; omega, by show i + 1 ≤ _; omega, fun j hj => ?_⟩, by show _ - (i + 1) < _; omega⟩
    rcases Nat.lt_succ_iff_lt_or_eq.1 hj with hj | rfl
    · exact h j hj
    · assumption
  all_goals (
    (refine FnEnd.ret (F' := F) (vs := [_]) (by (first | refine ResF.tmp inW ?_ | refine ResF.cell rfl inF inP ?_); exact ResF.nil) inS ⟨?_, rfl⟩)
    rw [before_end h1 h2 (by omega) h]
    (simp only [tupOf, AV.bool.injEq]; symm; first | (apply decide_eq_true; omega) | (apply decide_eq_false; omega)))
end Go.Ax
