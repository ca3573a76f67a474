/-
  Contracts: two days that contradict each other.
-/
import Derived.Test.YtmhbmnonichopaaXO9
namespace Go.Ax
set_option maxHeartbeats 8000000
set_option linter.unusedSimpArgs false
set_option linter.unusedVariables false
variable {lo : Nat} {F : Hp}

/-- the room before the day, a one more than the day -/
def rmz (k : K) (a : Nat) : Int := if a = 0 then 0 else rm k (a - 1)
def badPair (k : K) (a j : Nat) : Prop := rmz k a + ((j : Int) - ((a : Int) - 1)) * k.most < nd k j
instance (k : K) (a j : Nat) : Decidable (badPair k a j) := by unfold badPair; infer_instance
def cIn (k : K) (a : Nat) : Nat → Nat → Option Nat
  | _, 0 => none
  | j, m + 1 => if badPair k a j then some j else cIn k a (j + 1) m
def cOut (k : K) (n : Nat) : Nat → Nat → Option (Int × Nat)
  | _, 0 => none
  | a, m + 1 => match cIn k a (a - 1) (n - (a - 1)) with
    | some j => some ((a : Int) - 1, j)
    | none => cOut k n (a + 1) m
/-- both days, and the error -/
def clashR (k : K) : Int × Int × Int := if chk k ≠ 0 then (0, 0, chk k) else match cOut k k.sales.length 0 (k.sales.length + 1) with
  | some (i, j) => (i, j, 0)
  | none => (0, 0, 5)
theorem cIn_step (k : K) (a : Nat) {j n : Nat} (h : j < n) : cIn k a j (n - j) = if badPair k a j then some j else cIn k a (j + 1) (n - (j + 1)) := by
  rw [show n - j = (n - (j + 1)) + 1 by omega]; rfl
theorem cIn_end (k : K) (a : Nat) {j n : Nat} (h : n ≤ j) : cIn k a j (n - j) = none := by rw [show n - j = 0 by omega]; rfl
theorem cOut_step (k : K) {a n : Nat} (h : a < n + 1) : cOut k n a (n + 1 - a) = match cIn k a (a - 1) (n - (a - 1)) with
    | some j => some ((a : Int) - 1, j)
    | none => cOut k n (a + 1) (n + 1 - (a + 1)) := by
  rw [show n + 1 - a = (n + 1 - (a + 1)) + 1 by omega]; rfl
theorem rmz_in {k : K} (hv : Vk k) {a : Nat} (ha : a ≤ k.sales.length) : 0 ≤ rmz k a ∧ rmz k a ≤ 3000000 := by
  unfold rmz
  split
  · omega
  · exact rm_in hv (by omega)
theorem prod_in {k : K} (hv : Vk k) {a j : Nat} (h : a ≤ j + 1) (hj : j ≤ 20) : 0 ≤ ((j : Int) - ((a : Int) - 1)) * k.most ∧ ((j : Int) - ((a : Int) - 1)) * k.most ≤ 210 := by
  have h1 := hv.most1
  have h2 := hv.most2
  constructor
  · exact Int.mul_nonneg (by omega) h1
  · calc ((j : Int) - ((a : Int) - 1)) * k.most ≤ 21 * 10 := Int.mul_le_mul (by omega) h2 h1 (by omega)
      _ = 210 := by decide
theorem clash_chk {k : K} (h : chk k ≠ 0) : clashR k = (0, 0, chk k) := if_pos h
theorem clash_some {k : K} {i : Int} {j : Nat} (h : chk k = 0) (h2 : cOut k k.sales.length 0 (k.sales.length + 1) = some (i, j)) : clashR k = (i, (j : Int), 0) := by unfold clashR; rw [if_neg (by omega), h2]
theorem clash_none {k : K} (h : chk k = 0) (h2 : cOut k k.sales.length 0 (k.sales.length + 1) = none) : clashR k = (0, 0, 5) := by unfold clashR; rw [if_neg (by omega), h2]

theorem f29_ok {k : K} {sv cv : AV} (h : KVal F k sv cv) : Pure tblW (fnv 29) [.agg (kl k sv cv)] F (.tup [.int .i64 (clashR k).1, .int .i64 (clashR k).2.1, .int .i64 (clashR k).2.2]) := by
  intro lo
  have hk := h
  obtain ⟨hs, hc, hls, hlc⟩ := h
  refine Fn.func (fn := af29) rfl rfl ?_
  (repeat' (first | (first | refine Wo.nil ?_ | refine Wd.nil ?_ | ((first | refine Wo.cons ?_ | refine Wd.cons ?_); (try refine W1.go rfl rfl ?_); ((first | refine k1 ?_ | refine k2 ?_ | (refine isCall ?_; first | refine W1.pure rfl rfl (f21_ok (by repeat (first | assumption | apply KVal.cons))) ?_ | refine W1.callM rfl rfl ((f44_ok (by repeat (first | assumption | apply KVal.cons)) (Vk.of (by assumption))).mono fun v F' h => ?_)) | (refine isIaddrs ?_; refine W1.iaddrRz hov rfl rfl (j := a - 1) (by omega) (by omega) (fun _ _ _ _ _ _ _ => ?_)) | (refine isMnx ?_; refine W1.max2z (c := ((a - 1 : Nat) : Int)) rfl rfl (by omega) ?_) | refine W1.auto ?_ | ((first | refine kA ?_ | refine kB ?_ | refine kC ?_ | refine kD ?_ | refine kE ?_ | refine kF ?_ | refine kG ?_); refine ⟨fun _ => ?_, fun _ => ?_⟩) | refine W1.alloc (fun _ _ => ?_) | refine W1.boxA rfl (fun _ _ => ?_) | refine kq (fun _ _ => ?_) | refine kp ?_ | (refine isIaddrs ?_; first | refine W1.iaddrI inI rfl rfl (by omega) (fun _ _ _ _ _ _ => ?_) | refine W1.iaddrR inR rfl rfl (by omega) (fun _ _ _ _ _ _ _ => ?_)) | (refine isBox ?_; refine W1.boxS inW (by rfl) (fun _ _ => ?_)) | (refine isBslice ?_; refine W1.bslice (fill_all inC rfl) (fun _ _ => ?_))) <;> (try refine ⟨fun _ => rfl, ?_⟩)))) | (first | refine Ws.seq ?_ | refine Ws.region ?_ | refine Ws.draw (fun bd hbd => ?_) | refine Ws.cond rfl ?_ | refine Ws.skip ?_ | refine Ws.scope ?_ | refine Ws.block ?_ | refine Ws.exit ?_ | refine Ws.ret ?_)))
  · (refine FnEnd.ret (F' := F) (vs := [_, _, _]) (by (first | refine ResF.tmp inW ?_ | refine ResF.cell rfl inF inP ?_); (first | refine ResF.tmp inW ?_ | refine ResF.cell rfl inF inP ?_); (first | refine ResF.tmp inW ?_ | refine ResF.cell rfl inF inP ?_); exact ResF.nil) inS ⟨?_, rfl⟩)
    rw [clash_chk (by assumption)]; rfl
  obtain ⟨Fo, ho, rfl⟩ := h
  rename_i b0 hb0 hchk
  have hv := Vk.of hchk
  have h7 := hv.n2
  have hov : RowR (Fo ++ ((b0, .cells (kl k sv cv) true) :: F)) v (bnds k k.sales.length) := ho.rowR (List.subset_append_left _ _)
  have hbl := bnds_len k k.sales.length
  (repeat' (first | (first | refine Wo.nil ?_ | refine Wd.nil ?_ | ((first | refine Wo.cons ?_ | refine Wd.cons ?_); (try refine W1.go rfl rfl ?_); ((first | refine k1 ?_ | refine k2 ?_ | (refine isCall ?_; first | refine W1.pure rfl rfl (f21_ok (by repeat (first | assumption | apply KVal.cons))) ?_ | refine W1.callM rfl rfl ((f44_ok (by repeat (first | assumption | apply KVal.cons)) (Vk.of (by assumption))).mono fun v F' h => ?_)) | (refine isIaddrs ?_; refine W1.iaddrRz hov rfl rfl (j := a - 1) (by omega) (by omega) (fun _ _ _ _ _ _ _ => ?_)) | (refine isMnx ?_; refine W1.max2z (c := ((a - 1 : Nat) : Int)) rfl rfl (by omega) ?_) | refine W1.auto ?_ | ((first | refine kA ?_ | refine kB ?_ | refine kC ?_ | refine kD ?_ | refine kE ?_ | refine kF ?_ | refine kG ?_); refine ⟨fun _ => ?_, fun _ => ?_⟩) | refine W1.alloc (fun _ _ => ?_) | refine W1.boxA rfl (fun _ _ => ?_) | refine kq (fun _ _ => ?_) | refine kp ?_ | (refine isIaddrs ?_; first | refine W1.iaddrI inI rfl rfl (by omega) (fun _ _ _ _ _ _ => ?_) | refine W1.iaddrR inR rfl rfl (by omega) (fun _ _ _ _ _ _ _ => ?_)) | (refine isBox ?_; refine W1.boxS inW (by rfl) (fun _ _ => ?_)) | (refine isBslice ?_; refine W1.bslice (fill_all inC rfl) (fun _ _ => ?_))) <;> (try refine ⟨fun _ => rfl, ?_⟩)))) | (first | refine Ws.seq ?_ | refine Ws.region ?_ | refine Ws.draw (fun bd hbd => ?_) | refine Ws.cond rfl ?_ | refine Ws.skip ?_ | refine Ws.scope ?_ | refine Ws.block ?_ | refine Ws.exit ?_ | refine Ws.ret ?_)))
  refine Ws.loopG (X := Nat) (fun a => [(1, .ptr (some (b0, 0))), (5, v), (6, .int .i64 ((a : Int) - 1))]) (fun _ => Fo ++ ((b0, .cells (kl k sv cv) true) :: F))
    (fun a => a ≤ k.sales.length + 1 ∧ cOut k k.sales.length 0 (k.sales.length + 1) = cOut k k.sales.length a (k.sales.length + 1 - a)) (fun a => k.sales.length + 1 - a) 0
    ⟨rfl, rfl, rfl, trivial⟩ inS ⟨Nat.zero_le _, rfl⟩ ?_
  rintro a B ⟨ha, hP⟩
  have a1 : a ≤ k.sales.length → _ := fun h => rmz_in hv h
  have a2 : 1 ≤ a → a ≤ k.sales.length → ((bnds k k.sales.length).getD (a - 1) (0, 0)).2 = rmz k a := fun h1 h2 => by rw [bnds_get k (by omega)]; unfold rmz; rw [if_neg (by omega)]
  (repeat' (first | (first | refine Wo.nil ?_ | refine Wd.nil ?_ | ((first | refine Wo.cons ?_ | refine Wd.cons ?_); (try refine W1.go rfl rfl ?_); ((first | refine k1 ?_ | refine k2 ?_ | (refine isCall ?_; first | refine W1.pure rfl rfl (f21_ok (by repeat (first | assumption | apply KVal.cons))) ?_ | refine W1.callM rfl rfl ((f44_ok (by repeat (first | assumption | apply KVal.cons)) (Vk.of (by assumption))).mono fun v F' h => ?_)) | (refine isIaddrs ?_; refine W1.iaddrRz hov rfl rfl (j := a - 1) (by omega) (by omega) (fun _ _ _ _ _ _ _ => ?_)) | (refine isMnx ?_; refine W1.max2z (c := ((a - 1 : Nat) : Int)) rfl rfl (by omega) ?_) | refine W1.auto ?_ | ((first | refine kA ?_ | refine kB ?_ | refine kC ?_ | refine kD ?_ | refine kE ?_ | refine kF ?_ | refine kG ?_); refine ⟨fun _ => ?_, fun _ => ?_⟩) | refine W1.alloc (fun _ _ => ?_) | refine W1.boxA rfl (fun _ _ => ?_) | refine kq (fun _ _ => ?_) | refine kp ?_ | (refine isIaddrs ?_; first | refine W1.iaddrI inI rfl rfl (by omega) (fun _ _ _ _ _ _ => ?_) | refine W1.iaddrR inR rfl rfl (by omega) (fun _ _ _ _ _ _ _ => ?_)) | (refine isBox ?_; refine W1.boxS inW (by rfl) (fun _ _ => ?_)) | (refine isBslice ?_; refine W1.bslice (fill_all inC rfl) (fun _ _ => ?_))) <;> (try refine ⟨fun _ => rfl, ?_⟩)))) | (first | refine Ws.seq ?_ | refine Ws.region ?_ | refine Ws.draw (fun bd hbd => ?_) | refine Ws.cond rfl ?_ | refine Ws.skip ?_ | refine Ws.scope ?_ | refine Ws.block ?_ | refine Ws.exit ?_ | refine Ws.ret ?_)))
  all_goals try (
    (refine FnEnd.ret (F' := F) (vs := [_, _, _]) (by (first | refine ResF.tmp inW ?_ | refine ResF.cell rfl inF inP ?_); (first | refine ResF.tmp inW ?_ | refine ResF.cell rfl inF inP ?_); (first | refine ResF.tmp inW ?_ | refine ResF.cell rfl inF inP ?_); exact ResF.nil) inS ⟨?_, rfl⟩)
    rw [clash_none hchk (by rw [hP, show k.sales.length + 1 - a = 0 by omega]; rfl)]; rfl)
  all_goals (
    refine Ws.loopG (X := Nat) (fun j => [(1, .ptr (some (b0, 0))), (5, v), (6, .int .i64 ((a : Int) - 1)), (7, .int .i64 (rmz k a)), (8, .int .i64 (j : Nat))]) (fun _ => Fo ++ ((b0, .cells (kl k sv cv) true) :: F))
      (fun j => a - 1 ≤ j ∧ j ≤ k.sales.length ∧ cIn k a (a - 1) (k.sales.length - (a - 1)) = cIn k a j (k.sales.length - j)) (fun j => k.sales.length - j) (a - 1)
      ⟨rfl, rfl, rfl, (by first | exact congrArg (AV.int .i64) (a2 (by omega) (by omega)) | (have e : a = 0 := by omega); (subst e; rfl)), rfl, trivial⟩ inS ⟨Nat.le_refl _, by omega, rfl⟩ ?_
    rintro j B2 ⟨hj1, hj2, hQ⟩
    have p1 := prod_in hv (a := a) (j := j) (by omega) (by omega)
    have p2 := Int.mul_comm k.most ((j : Int) - ((a : Int) - 1))
    have a3 := a1 (by omega)
    have e1 : j < k.sales.length → ((bnds k k.sales.length).getD j (0, 0)).1 = nd k j := fun h => by rw [bnds_get k h]
    (repeat' (first | (first | refine Wo.nil ?_ | refine Wd.nil ?_ | ((first | refine Wo.cons ?_ | refine Wd.cons ?_); (try refine W1.go rfl rfl ?_); ((first | refine k1 ?_ | refine k2 ?_ | (refine isCall ?_; first | refine W1.pure rfl rfl (f21_ok (by repeat (first | assumption | apply KVal.cons))) ?_ | refine W1.callM rfl rfl ((f44_ok (by repeat (first | assumption | apply KVal.cons)) (Vk.of (by assumption))).mono fun v F' h => ?_)) | (refine isIaddrs ?_; refine W1.iaddrRz hov rfl rfl (j := a - 1) (by omega) (by omega) (fun _ _ _ _ _ _ _ => ?_)) | (refine isMnx ?_; refine W1.max2z (c := ((a - 1 : Nat) : Int)) rfl rfl (by omega) ?_) | refine W1.auto ?_ | ((first | refine kA ?_ | refine kB ?_ | refine kC ?_ | refine kD ?_ | refine kE ?_ | refine kF ?_ | refine kG ?_); refine ⟨fun _ => ?_, fun _ => ?_⟩) | refine W1.alloc (fun _ _ => ?_) | refine W1.boxA rfl (fun _ _ => ?_) | refine kq (fun _ _ => ?_) | refine kp ?_ | (refine isIaddrs ?_; first | refine W1.iaddrI inI rfl rfl (by omega) (fun _ _ _ _ _ _ => ?_) | refine W1.iaddrR inR rfl rfl (by omega) (fun _ _ _ _ _ _ _ => ?_)) | (refine isBox ?_; refine W1.boxS inW (by rfl) (fun _ _ => ?_)) | (refine isBslice ?_; refine W1.bslice (fill_all inC rfl) (fun _ _ => ?_))) <;> (try refine ⟨fun _ => rfl, ?_⟩)))) | (first | refine Ws.seq ?_ | refine Ws.region ?_ | refine Ws.draw (fun bd hbd => ?_) | refine Ws.cond rfl ?_ | refine Ws.skip ?_ | refine Ws.scope ?_ | refine Ws.block ?_ | refine Ws.exit ?_ | refine Ws.ret ?_)))
    · (refine FnEnd.ret (F' := F) (vs := [_, _, _]) (by (first | refine ResF.tmp inW ?_ | refine ResF.cell rfl inF inP ?_); (first | refine ResF.tmp inW ?_ | refine ResF.cell rfl inF inP ?_); (first | refine ResF.tmp inW ?_ | refine ResF.cell rfl inF inP ?_); exact ResF.nil) inS ⟨?_, rfl⟩)
      have hb : badPair k a j := by unfold badPair; have := e1 (by omega); omega
      have hc : cOut k k.sales.length 0 (k.sales.length + 1) = some ((a : Int) - 1, j) := by rw [hP, cOut_step k (by omega), hQ, cIn_step k a (by omega), if_pos hb]
      rw [clash_some hchk hc]; rfl
    · refine ⟨j + 1, ⟨rfl, rfl, rfl, rfl, rfl, trivial⟩, inS, ⟨by omega, by omega, ?_⟩, by omega⟩
      have hb : ¬ badPair k a j := by unfold badPair; have := e1 (by omega); omega
      rw [hQ, cIn_step k a (by omega), if_neg hb]
    · refine ⟨a + 1, ⟨rfl, rfl, (by show AV.int .i64 (_ : Int) = AV.int .i64 _; congr 1; omega), trivial⟩, inS, ⟨by omega, ?_⟩, by omega⟩
      rw [hP, cOut_step k (by omega), hQ, cIn_end k a (by omega)])
end Go.Ax
