/-
  Contracts: by how much a meter is off, by the program.
-/
import Derived.Test.YtjcehnfhkgbpiaaXH3
namespace Go.Ax
set_option maxHeartbeats 2000000
set_option maxRecDepth 6000
set_option linter.unusedSimpArgs false
set_option linter.unusedVariables false
variable {lo : Nat} {F : Hp}
theorem f85_ok {p : Int × Int → Bool} {xs : List (Int × Int)} {fv v : AV} (hr : RowR F v xs) (hlen : xs.length ≤ 9223372036854775807) (hf : ∀ j, j < xs.length → Pure tblW fv [.agg [.int .i64 (xs.getD j (0, 0)).1, .int .i64 (xs.getD j (0, 0)).2]] F (.bool (p (xs.getD j (0, 0))))) :
    Pure tblW (fnv 85) [v, fv] F (.int .i64 (idxOf p xs)) := by
  intro lo
  refine Fn.func (fn := af85) rfl rfl ?_
  (repeat' (first | (first | refine Wo.nil ?_ | refine Wd.nil ?_ | ((first | refine Wo.cons ?_ | refine Wd.cons ?_); (try refine W1.go rfl rfl ?_); ((first | refine k1 ?_ | refine k2 ?_ | (refine isCall ?_; refine W1.pureB rfl rfl (hf _ (by omega)) (fun _ => ?_) (fun _ => ?_)) | refine W1.auto ?_ | ((first | refine kA ?_ | refine kB ?_ | refine kC ?_ | refine kD ?_ | refine kE ?_ | refine kF ?_ | refine kG ?_); refine ⟨fun _ => ?_, fun _ => ?_⟩) | refine W1.alloc (fun _ _ => ?_) | refine W1.boxA rfl (fun _ _ => ?_) | refine kq (fun _ _ => ?_) | refine kp ?_ | (refine isIaddrs ?_; first | refine W1.iaddrI inI rfl rfl (by omega) (fun _ _ _ _ _ _ => ?_) | refine W1.iaddrR inR rfl rfl (by omega) (fun _ _ _ _ _ _ _ => ?_)) | (refine isBox ?_; refine W1.boxS inW (by rfl) (fun _ _ => ?_)) | (refine isBslice ?_; refine W1.bslice (fill_all inC rfl) (fun _ _ => ?_))) <;> (try refine ⟨fun _ => rfl, ?_⟩)))) | (first | refine Ws.seq ?_ | refine Ws.region ?_ | refine Ws.draw (fun bd hbd => ?_) | refine Ws.cond rfl ?_ | refine Ws.skip ?_ | refine Ws.scope ?_ | refine Ws.block ?_ | refine Ws.exit ?_ | refine Ws.ret ?_)))
  refine Ws.loopG (X := Nat) (fun i => [(0, v), (1, fv), (7, .int .i64 xs.length), (8, .int .i64 (i : Nat))]) (fun _ => F) (fun i => i ≤ xs.length ∧ ∀ j, j < i → p (xs.getD j (0, 0)) = false) (fun i => xs.length - i) 0
    ⟨rfl, rfl, rfl, rfl, trivial⟩ inS ⟨Nat.zero_le _, fun j hj => absurd hj (Nat.not_lt_zero j)⟩ ?_
  rintro i B ⟨hi, hb⟩
  (repeat' (first | (first | refine Wo.nil ?_ | refine Wd.nil ?_ | ((first | refine Wo.cons ?_ | refine Wd.cons ?_); (try refine W1.go rfl rfl ?_); ((first | refine k1 ?_ | refine k2 ?_ | (refine isCall ?_; refine W1.pureB rfl rfl (hf _ (by omega)) (fun _ => ?_) (fun _ => ?_)) | refine W1.auto ?_ | ((first | refine kA ?_ | refine kB ?_ | refine kC ?_ | refine kD ?_ | refine kE ?_ | refine kF ?_ | refine kG ?_); refine ⟨fun _ => ?_, fun _ => ?_⟩) | refine W1.alloc (fun _ _ => ?_) | refine W1.boxA rfl (fun _ _ => ?_) | refine kq (fun _ _ => ?_) | refine kp ?_ | (refine isIaddrs ?_; first | refine W1.iaddrI inI rfl rfl (by omega) (fun _ _ _ _ _ _ => ?_) | refine W1.iaddrR inR rfl rfl (by omega) (fun _ _ _ _ _ _ _ => ?_)) | (refine isBox ?_; refine W1.boxS inW (by rfl) (fun _ _ => ?_)) | (refine isBslice ?_; refine W1.bslice (fill_all inC rfl) (fun _ _ => ?_))) <;> (try refine ⟨fun _ => rfl, ?_⟩)))) | (first | refine Ws.seq ?_ | refine Ws.region ?_ | refine Ws.draw (fun bd hbd => ?_) | refine Ws.cond rfl ?_ | refine Ws.skip ?_ | refine Ws.scope ?_ | refine Ws.block ?_ | refine Ws.exit ?_ | refine Ws.ret ?_)))
  · (refine FnEnd.ret (F' := F) (vs := [_]) (by (first | refine ResF.tmp inW ?_ | refine ResF.cell rfl inF inP ?_); exact ResF.nil) inS ⟨?_, rfl⟩)
    show AV.int .i64 _ = _
    rw [idxOf_found (by omega) (by assumption) hb]
  · refine ⟨i + 1, ⟨rfl, rfl, rfl, rfl, trivial⟩, inS, ⟨by omega, fun j hj => ?_⟩, by omega⟩
    rcases Nat.lt_succ_iff_lt_or_eq.1 hj with h | rfl
    · exact hb j h
    · assumption
  · (refine FnEnd.ret (F' := F) (vs := [_]) (by (first | refine ResF.tmp inW ?_ | refine ResF.cell rfl inF inP ?_); exact ResF.nil) inS ⟨?_, rfl⟩)
    show AV.int .i64 _ = _
    rw [idxOf_none (fun j hj => hb j (by omega))]
theorem f67_ok {p : Int × Int → Bool} {xs : List (Int × Int)} {fv v : AV} (hr : RowR F v xs) (hlen : xs.length ≤ 9223372036854775807) (hf : ∀ j, j < xs.length → Pure tblW fv [.agg [.int .i64 (xs.getD j (0, 0)).1, .int .i64 (xs.getD j (0, 0)).2]] F (.bool (p (xs.getD j (0, 0))))) :
    Pure tblW (fnv 67) [v, fv] F (.bool (xs.any p)) := by
  intro lo
  refine Fn.func (fn := af67) rfl rfl ?_
  have hi := idxOf_any p xs
  (repeat' (first | (first | refine Wo.nil ?_ | refine Wd.nil ?_ | ((first | refine Wo.cons ?_ | refine Wd.cons ?_); (try refine W1.go rfl rfl ?_); ((first | refine k1 ?_ | refine k2 ?_ | (refine isCall ?_; refine W1.pure rfl rfl (f85_ok (p := p) inR hlen hf) ?_) | refine W1.auto ?_ | ((first | refine kA ?_ | refine kB ?_ | refine kC ?_ | refine kD ?_ | refine kE ?_ | refine kF ?_ | refine kG ?_); refine ⟨fun _ => ?_, fun _ => ?_⟩) | refine W1.alloc (fun _ _ => ?_) | refine W1.boxA rfl (fun _ _ => ?_) | refine kq (fun _ _ => ?_) | refine kp ?_ | (refine isIaddrs ?_; first | refine W1.iaddrI inI rfl rfl (by omega) (fun _ _ _ _ _ _ => ?_) | refine W1.iaddrR inR rfl rfl (by omega) (fun _ _ _ _ _ _ _ => ?_)) | (refine isBox ?_; refine W1.boxS inW (by rfl) (fun _ _ => ?_)) | (refine isBslice ?_; refine W1.bslice (fill_all inC rfl) (fun _ _ => ?_))) <;> (try refine ⟨fun _ => rfl, ?_⟩)))) | (first | refine Ws.seq ?_ | refine Ws.region ?_ | refine Ws.draw (fun bd hbd => ?_) | refine Ws.cond rfl ?_ | refine Ws.skip ?_ | refine Ws.scope ?_ | refine Ws.block ?_ | refine Ws.exit ?_ | refine Ws.ret ?_)))
  all_goals (refine FnEnd.ret (F' := F) (vs := [_]) (by (first | refine ResF.tmp inW ?_ | refine ResF.cell rfl inF inP ?_); exact ResF.nil) inS ⟨?_, rfl⟩)
  · have : xs.any p = true := hi.1 (by assumption)
    rw [this]; rfl
  · have : ¬ xs.any p = true := fun h => by have := hi.2 h; omega
    rw [Bool.not_eq_true] at this
    rw [this]; rfl
theorem f66_ok {c : Int × Int} : Pure tblW (fnv 66) [.agg [.int .i64 c.1, .int .i64 c.2]] F (.bool (badCan c)) := by
  intro lo
  refine Fn.func (fn := af66) rfl rfl ?_
  (repeat' (first | (first | refine Wo.nil ?_ | refine Wd.nil ?_ | ((first | refine Wo.cons ?_ | refine Wd.cons ?_); (try refine W1.go rfl rfl ?_); ((first | refine k1 ?_ | refine k2 ?_ | (refine isCall ?_; refine W1.pureB rfl rfl (f53_1 inF) (fun _ => ?_) (fun _ => ?_)) | refine W1.auto ?_ | ((first | refine kA ?_ | refine kB ?_ | refine kC ?_ | refine kD ?_ | refine kE ?_ | refine kF ?_ | refine kG ?_); refine ⟨fun _ => ?_, fun _ => ?_⟩) | refine W1.alloc (fun _ _ => ?_) | refine W1.boxA rfl (fun _ _ => ?_) | refine kq (fun _ _ => ?_) | refine kp ?_ | (refine isIaddrs ?_; first | refine W1.iaddrI inI rfl rfl (by omega) (fun _ _ _ _ _ _ => ?_) | refine W1.iaddrR inR rfl rfl (by omega) (fun _ _ _ _ _ _ _ => ?_)) | (refine isBox ?_; refine W1.boxS inW (by rfl) (fun _ _ => ?_)) | (refine isBslice ?_; refine W1.bslice (fill_all inC rfl) (fun _ _ => ?_))) <;> (try refine ⟨fun _ => rfl, ?_⟩)))) | (first | refine Ws.seq ?_ | refine Ws.region ?_ | refine Ws.draw (fun bd hbd => ?_) | refine Ws.cond rfl ?_ | refine Ws.skip ?_ | refine Ws.scope ?_ | refine Ws.block ?_ | refine Ws.exit ?_ | refine Ws.ret ?_)))
  all_goals (refine FnEnd.ret (F' := F) (vs := [_]) (by (first | refine ResF.tmp inW ?_ | refine ResF.cell rfl inF inP ?_); exact ResF.nil) inS ⟨?_, rfl⟩)
  all_goals (simp only [decide_eq_true_eq, decide_eq_false_iff_not] at *; simp only [tupOf, AV.bool.injEq, badCan]; symm; first | (apply decide_eq_true; omega) | (apply decide_eq_false; omega))
theorem quo_in {n d N : Int} (hd : 1 ≤ d) (h1 : -N ≤ n) (h2 : n ≤ N) : -N ≤ n / d ∧ n / d ≤ N := by
  have hN : 0 ≤ N := by omega
  have hm : N * 1 ≤ N * d := Int.mul_le_mul_of_nonneg_left hd hN
  constructor
  · rw [le_quo (by omega), Int.neg_mul]; omega
  · have : n / d < N + 1 := Int.ediv_lt_of_lt_mul (by omega) (by
      have h3 : (N + 1) * d = N * d + d := by rw [Int.add_mul, Int.one_mul]
      rw [h3]; omega)
    omega
theorem no_bad {cs : List (Int × Int)} (h : cs.any badCan = false) {i : Nat} (hi : i < cs.length) : 0 ≤ (cs.getD i (0, 0)).1 ∧ (cs.getD i (0, 0)).1 ≤ 100000 ∧ 1 ≤ (cs.getD i (0, 0)).2 ∧ (cs.getD i (0, 0)).2 ≤ 100000 := by
  have h1 := List.any_eq_false.1 h (cs[i]) (List.getElem_mem hi)
  have e : cs.getD i (0, 0) = cs[i] := by simp [List.getD, List.getElem?_eq_getElem hi]
  rw [e]
  simp only [badCan, decide_eq_true_eq] at h1
  omega
theorem f35_loop {cs : List (Int × Int)} {v : AV} {b2 b5 : Nat} {B : FE} (hr : RowR F v cs) (hb : cs.any badCan = false) (hl : cs.length ≤ 20) (h5 : lo ≤ b5) :
    Ws tblW lo none (af35.body.loopAt 0) (upds B ((27, .int .i64 0) :: [(2, .ptr (some (b2, 0))), (5, .ptr (some (b5, 0))), (25, v), (26, .int .i64 (cs.length : Nat))])) ((b5, .cells [.int .i64 100, .int .i64 (-100)] true) :: ((b2, ABlk.cells [AV.int .i64 0, AV.int .i64 0] true) :: F))
      fun r E' G => r = .exit 1 ∧ Holds E' [(2, .ptr (some (b2, 0))), (5, .ptr (some (b5, 0))), (25, v), (26, .int .i64 (cs.length : Nat))] ∧ G = (b5, .cells [.int .i64 (wlo cs cs.length), .int .i64 (whi cs cs.length)] true) :: ((b2, ABlk.cells [AV.int .i64 0, AV.int .i64 0] true) :: F) := by
  show Ws tblW lo none (.loop _) _ _ _
  refine Ws.shrink ?_
  refine Ws.loopG (X := Nat) (fun i => (27, .int .i64 (i : Nat)) :: [(2, .ptr (some (b2, 0))), (5, .ptr (some (b5, 0))), (25, v), (26, .int .i64 (cs.length : Nat))]) (fun i => (b5, .cells [.int .i64 (wlo cs i), .int .i64 (whi cs i)] true) :: ((b2, ABlk.cells [AV.int .i64 0, AV.int .i64 0] true) :: F)) (fun i => i ≤ cs.length) (fun i => cs.length - i) 0 ⟨rfl, rfl, rfl, rfl, rfl, trivial⟩ (List.Sublist.refl _) (Nat.zero_le _) ?_
  rintro i B2 hi
  have hr' : RowR ((b5, .cells [.int .i64 (wlo cs i), .int .i64 (whi cs i)] true) :: ((b2, ABlk.cells [AV.int .i64 0, AV.int .i64 0] true) :: F)) v cs := hr.cons.cons
  by_cases hic : i < cs.length
  · have hc := no_bad hb hic
    have q1 := quo_in (n := -(1000 * ((cs.getD i (0, 0)).1 - (cs.getD i (0, 0)).2))) (d := (cs.getD i (0, 0)).2) (N := 1000000000) (by omega) (by omega) (by omega)
    (repeat' (first | (first | refine Wo.nil ?_ | refine Wd.nil ?_ | ((first | refine Wo.cons ?_ | refine Wd.cons ?_); (try refine W1.go rfl rfl ?_); ((first | refine k1 ?_ | refine k2 ?_ | refine W1.cO ?_ | (refine isDst 29 ?_; refine W1.iaddrR hr' rfl rfl hic (fun _ _ _ _ _ _ _ => ?_)) | (refine isDst 42 ?_; refine W1.pure rfl rfl (f68_ok (by omega) (by omega)) ?_) | (refine isDst 50 ?_; refine W1.pure rfl rfl (f68_ok (by omega) (by omega)) ?_) | (refine isDst 7 ?_; refine W1.alloc (fun b7 hb7 => ?_)) | refine W1.auto ?_ | ((first | refine kA ?_ | refine kB ?_ | refine kC ?_ | refine kD ?_ | refine kE ?_ | refine kF ?_ | refine kG ?_); refine ⟨fun _ => ?_, fun _ => ?_⟩) | refine W1.alloc (fun _ _ => ?_) | refine W1.boxA rfl (fun _ _ => ?_) | refine kq (fun _ _ => ?_) | refine kp ?_ | (refine isIaddrs ?_; first | refine W1.iaddrI inI rfl rfl (by omega) (fun _ _ _ _ _ _ => ?_) | refine W1.iaddrR inR rfl rfl (by omega) (fun _ _ _ _ _ _ _ => ?_)) | (refine isBox ?_; refine W1.boxS inW (by rfl) (fun _ _ => ?_)) | (refine isBslice ?_; refine W1.bslice (fill_all inC rfl) (fun _ _ => ?_))) <;> (try refine ⟨fun _ => rfl, ?_⟩)))) | (first | refine Ws.seq ?_ | refine Ws.region ?_ | refine Ws.draw (fun bd hbd => ?_) | refine Ws.cond rfl ?_ | refine Ws.skip ?_ | refine Ws.scope ?_ | refine Ws.block ?_ | refine Ws.exit ?_ | refine Ws.ret ?_)))
    exact ⟨i + 1, ⟨rfl, rfl, rfl, rfl, rfl, trivial⟩, List.Sublist.cons _ (List.Sublist.refl _), hic, by show _ - (i + 1) < _ - i; omega⟩
  · have e : i = cs.length := by omega
    subst e
    (repeat' (first | (first | refine Wo.nil ?_ | refine Wd.nil ?_ | ((first | refine Wo.cons ?_ | refine Wd.cons ?_); (try refine W1.go rfl rfl ?_); ((first | refine k1 ?_ | refine k2 ?_ | refine W1.cO ?_ | (refine isDst 29 ?_; refine W1.iaddrR hr' rfl rfl hic (fun _ _ _ _ _ _ _ => ?_)) | (refine isDst 42 ?_; refine W1.pure rfl rfl (f68_ok (by omega) (by omega)) ?_) | (refine isDst 50 ?_; refine W1.pure rfl rfl (f68_ok (by omega) (by omega)) ?_) | (refine isDst 7 ?_; refine W1.alloc (fun b7 hb7 => ?_)) | refine W1.auto ?_ | ((first | refine kA ?_ | refine kB ?_ | refine kC ?_ | refine kD ?_ | refine kE ?_ | refine kF ?_ | refine kG ?_); refine ⟨fun _ => ?_, fun _ => ?_⟩) | refine W1.alloc (fun _ _ => ?_) | refine W1.boxA rfl (fun _ _ => ?_) | refine kq (fun _ _ => ?_) | refine kp ?_ | (refine isIaddrs ?_; first | refine W1.iaddrI inI rfl rfl (by omega) (fun _ _ _ _ _ _ => ?_) | refine W1.iaddrR inR rfl rfl (by omega) (fun _ _ _ _ _ _ _ => ?_)) | (refine isBox ?_; refine W1.boxS inW (by rfl) (fun _ _ => ?_)) | (refine isBslice ?_; refine W1.bslice (fill_all inC rfl) (fun _ _ => ?_))) <;> (try refine ⟨fun _ => rfl, ?_⟩)))) | (first | refine Ws.seq ?_ | refine Ws.region ?_ | refine Ws.draw (fun bd hbd => ?_) | refine Ws.cond rfl ?_ | refine Ws.skip ?_ | refine Ws.scope ?_ | refine Ws.block ?_ | refine Ws.exit ?_ | refine Ws.ret ?_)))
    exact ⟨_, List.Sublist.refl _, rfl, ⟨rfl, rfl, rfl, rfl, trivial⟩, rfl⟩
theorem f53_2t {b : Nat} {own : Bool} {l h a c : Int} {cap es : Nat} {ex : Bool} (hm : (b, .cells [.int .i64 a, .int .i64 c] own) ∈ F) (hh : l ≤ a ∧ a ≤ h ∧ l ≤ c ∧ c ≤ h) : Pure tblW (fnv 53) [.int .i64 l, .int .i64 h, .slc (some (b, 0)) 2 cap ex es] F (.bool true) := by
  have := f53_2 (l := l) (h := h) (cap := cap) (es := es) (ex := ex) hm
  rwa [decide_eq_true hh] at this
theorem f53_2f {b : Nat} {own : Bool} {l h a c : Int} {cap es : Nat} {ex : Bool} (hm : (b, .cells [.int .i64 a, .int .i64 c] own) ∈ F) (hh : ¬ (l ≤ a ∧ a ≤ h ∧ l ≤ c ∧ c ≤ h)) : Pure tblW (fnv 53) [.int .i64 l, .int .i64 h, .slc (some (b, 0)) 2 cap ex es] F (.bool false) := by
  have := f53_2 (l := l) (h := h) (cap := cap) (es := es) (ex := ex) hm
  rwa [decide_eq_false hh] at this
theorem f67_t {cs : List (Int × Int)} {v : AV} (hr : RowR F v cs) (hl : cs.length ≤ 9223372036854775807) {x : Bool} (h : cs.any badCan = x) : Pure tblW (fnv 67) [v, fnv 66] F (.bool x) := by
  rw [← h]; exact f67_ok hr hl (fun _ _ => f66_ok)
theorem f35_ok {cs : List (Int × Int)} {v : AV} (hr : RowR F v cs) (hl : cs.length ≤ 9223372036854775807) : Pure tblW (fnv 35) [v] F (rv (wornR cs)) := by
  intro lo
  refine Fn.func (fn := af35) rfl rfl ?_
  by_cases h0 : cs.length < 1
  · have e1 : wornR cs = ((0, 0), 6) := by unfold wornR; rw [if_pos (.inl h0)]
    rw [e1]
    (repeat' (first | (first | refine Wo.nil ?_ | refine Wd.nil ?_ | ((first | refine Wo.cons ?_ | refine Wd.cons ?_); (try refine W1.go rfl rfl ?_); ((first | refine k1 ?_ | refine k2 ?_ | (refine isDst 2 ?_; refine W1.alloc (fun b2 hb2 => ?_)) | (refine isDst 5 ?_; refine W1.alloc (fun b5 hb5 => ?_)) | refine W1.cO ?_ | (refine isDst 22 ?_; refine W1.pure rfl rfl (f67_t hr.cons (by omega) hb) ?_) | (refine isDst 61 ?_; refine W1.pure rfl rfl (f53_2t (List.mem_cons_self ..) hw) ?_) | (refine isDst 61 ?_; refine W1.pure rfl rfl (f53_2f (List.mem_cons_self ..) hw) ?_) | (refine isLen ?_; refine W1.lenR inR rfl ?_) | refine W1.auto ?_ | ((first | refine kA ?_ | refine kB ?_ | refine kC ?_ | refine kD ?_ | refine kE ?_ | refine kF ?_ | refine kG ?_); refine ⟨fun _ => ?_, fun _ => ?_⟩) | refine W1.alloc (fun _ _ => ?_) | refine W1.boxA rfl (fun _ _ => ?_) | refine kq (fun _ _ => ?_) | refine kp ?_ | (refine isIaddrs ?_; first | refine W1.iaddrI inI rfl rfl (by omega) (fun _ _ _ _ _ _ => ?_) | refine W1.iaddrR inR rfl rfl (by omega) (fun _ _ _ _ _ _ _ => ?_)) | (refine isBox ?_; refine W1.boxS inW (by rfl) (fun _ _ => ?_)) | (refine isBslice ?_; refine W1.bslice (fill_all inC rfl) (fun _ _ => ?_))) <;> (try refine ⟨fun _ => rfl, ?_⟩)))) | (first | refine Ws.seq ?_ | refine Ws.region ?_ | refine Ws.draw (fun bd hbd => ?_) | refine Ws.cond rfl ?_ | refine Ws.skip ?_ | refine Ws.scope ?_ | refine Ws.block ?_ | refine Ws.exit ?_ | refine Ws.ret ?_)))
    (refine FnEnd.ret (F' := F) (vs := [_, _]) (by (first | refine ResF.tmp inW ?_ | refine ResF.cell rfl inF inP ?_); (first | refine ResF.tmp inW ?_ | refine ResF.cell rfl inF inP ?_); exact ResF.nil) inS ⟨?_, rfl⟩)
    rfl
  by_cases h20 : 20 < cs.length
  · have e1 : wornR cs = ((0, 0), 6) := by unfold wornR; rw [if_pos (.inr h20)]
    rw [e1]
    (repeat' (first | (first | refine Wo.nil ?_ | refine Wd.nil ?_ | ((first | refine Wo.cons ?_ | refine Wd.cons ?_); (try refine W1.go rfl rfl ?_); ((first | refine k1 ?_ | refine k2 ?_ | (refine isDst 2 ?_; refine W1.alloc (fun b2 hb2 => ?_)) | (refine isDst 5 ?_; refine W1.alloc (fun b5 hb5 => ?_)) | refine W1.cO ?_ | (refine isDst 22 ?_; refine W1.pure rfl rfl (f67_t hr.cons (by omega) hb) ?_) | (refine isDst 61 ?_; refine W1.pure rfl rfl (f53_2t (List.mem_cons_self ..) hw) ?_) | (refine isDst 61 ?_; refine W1.pure rfl rfl (f53_2f (List.mem_cons_self ..) hw) ?_) | (refine isLen ?_; refine W1.lenR inR rfl ?_) | refine W1.auto ?_ | ((first | refine kA ?_ | refine kB ?_ | refine kC ?_ | refine kD ?_ | refine kE ?_ | refine kF ?_ | refine kG ?_); refine ⟨fun _ => ?_, fun _ => ?_⟩) | refine W1.alloc (fun _ _ => ?_) | refine W1.boxA rfl (fun _ _ => ?_) | refine kq (fun _ _ => ?_) | refine kp ?_ | (refine isIaddrs ?_; first | refine W1.iaddrI inI rfl rfl (by omega) (fun _ _ _ _ _ _ => ?_) | refine W1.iaddrR inR rfl rfl (by omega) (fun _ _ _ _ _ _ _ => ?_)) | (refine isBox ?_; refine W1.boxS inW (by rfl) (fun _ _ => ?_)) | (refine isBslice ?_; refine W1.bslice (fill_all inC rfl) (fun _ _ => ?_))) <;> (try refine ⟨fun _ => rfl, ?_⟩)))) | (first | refine Ws.seq ?_ | refine Ws.region ?_ | refine Ws.draw (fun bd hbd => ?_) | refine Ws.cond rfl ?_ | refine Ws.skip ?_ | refine Ws.scope ?_ | refine Ws.block ?_ | refine Ws.exit ?_ | refine Ws.ret ?_)))
    (refine FnEnd.ret (F' := F) (vs := [_, _]) (by (first | refine ResF.tmp inW ?_ | refine ResF.cell rfl inF inP ?_); (first | refine ResF.tmp inW ?_ | refine ResF.cell rfl inF inP ?_); exact ResF.nil) inS ⟨?_, rfl⟩)
    rfl
  cases hb : cs.any badCan with
  | true =>
    have e1 : wornR cs = ((0, 0), 3) := by unfold wornR; rw [if_neg (by omega), if_pos hb]
    rw [e1]
    (repeat' (first | (first | refine Wo.nil ?_ | refine Wd.nil ?_ | ((first | refine Wo.cons ?_ | refine Wd.cons ?_); (try refine W1.go rfl rfl ?_); ((first | refine k1 ?_ | refine k2 ?_ | (refine isDst 2 ?_; refine W1.alloc (fun b2 hb2 => ?_)) | (refine isDst 5 ?_; refine W1.alloc (fun b5 hb5 => ?_)) | refine W1.cO ?_ | (refine isDst 22 ?_; refine W1.pure rfl rfl (f67_t hr.cons (by omega) hb) ?_) | (refine isDst 61 ?_; refine W1.pure rfl rfl (f53_2t (List.mem_cons_self ..) hw) ?_) | (refine isDst 61 ?_; refine W1.pure rfl rfl (f53_2f (List.mem_cons_self ..) hw) ?_) | (refine isLen ?_; refine W1.lenR inR rfl ?_) | refine W1.auto ?_ | ((first | refine kA ?_ | refine kB ?_ | refine kC ?_ | refine kD ?_ | refine kE ?_ | refine kF ?_ | refine kG ?_); refine ⟨fun _ => ?_, fun _ => ?_⟩) | refine W1.alloc (fun _ _ => ?_) | refine W1.boxA rfl (fun _ _ => ?_) | refine kq (fun _ _ => ?_) | refine kp ?_ | (refine isIaddrs ?_; first | refine W1.iaddrI inI rfl rfl (by omega) (fun _ _ _ _ _ _ => ?_) | refine W1.iaddrR inR rfl rfl (by omega) (fun _ _ _ _ _ _ _ => ?_)) | (refine isBox ?_; refine W1.boxS inW (by rfl) (fun _ _ => ?_)) | (refine isBslice ?_; refine W1.bslice (fill_all inC rfl) (fun _ _ => ?_))) <;> (try refine ⟨fun _ => rfl, ?_⟩)))) | (first | refine Ws.seq ?_ | refine Ws.region ?_ | refine Ws.draw (fun bd hbd => ?_) | refine Ws.cond rfl ?_ | refine Ws.skip ?_ | refine Ws.scope ?_ | refine Ws.block ?_ | refine Ws.exit ?_ | refine Ws.ret ?_)))
    (refine FnEnd.ret (F' := F) (vs := [_, _]) (by (first | refine ResF.tmp inW ?_ | refine ResF.cell rfl inF inP ?_); (first | refine ResF.tmp inW ?_ | refine ResF.cell rfl inF inP ?_); exact ResF.nil) inS ⟨?_, rfl⟩)
    rfl
  | false =>
    have e1 : wornR cs = if -100 ≤ wlo cs cs.length ∧ whi cs cs.length ≤ 100 then ((wlo cs cs.length, whi cs cs.length), 0) else ((0, 0), 2) := by
      unfold wornR; rw [if_neg (by omega), if_neg (by rw [hb]; simp)]
    have w1 := wlo_le cs cs.length
    have w2 := whi_ge cs cs.length
    (repeat' (first | (first | refine Wo.nil ?_ | refine Wd.nil ?_ | ((first | refine Wo.cons ?_ | refine Wd.cons ?_); (try refine W1.go rfl rfl ?_); ((first | refine k1 ?_ | refine k2 ?_ | (refine isDst 2 ?_; refine W1.alloc (fun b2 hb2 => ?_)) | (refine isDst 5 ?_; refine W1.alloc (fun b5 hb5 => ?_)) | refine W1.cO ?_ | (refine isDst 22 ?_; refine W1.pure rfl rfl (f67_t hr.cons (by omega) hb) ?_) | (refine isDst 61 ?_; refine W1.pure rfl rfl (f53_2t (List.mem_cons_self ..) hw) ?_) | (refine isDst 61 ?_; refine W1.pure rfl rfl (f53_2f (List.mem_cons_self ..) hw) ?_) | (refine isLen ?_; refine W1.lenR inR rfl ?_) | refine W1.auto ?_ | ((first | refine kA ?_ | refine kB ?_ | refine kC ?_ | refine kD ?_ | refine kE ?_ | refine kF ?_ | refine kG ?_); refine ⟨fun _ => ?_, fun _ => ?_⟩) | refine W1.alloc (fun _ _ => ?_) | refine W1.boxA rfl (fun _ _ => ?_) | refine kq (fun _ _ => ?_) | refine kp ?_ | (refine isIaddrs ?_; first | refine W1.iaddrI inI rfl rfl (by omega) (fun _ _ _ _ _ _ => ?_) | refine W1.iaddrR inR rfl rfl (by omega) (fun _ _ _ _ _ _ _ => ?_)) | (refine isBox ?_; refine W1.boxS inW (by rfl) (fun _ _ => ?_)) | (refine isBslice ?_; refine W1.bslice (fill_all inC rfl) (fun _ _ => ?_))) <;> (try refine ⟨fun _ => rfl, ?_⟩)))) | (first | refine Ws.seq ?_ | refine Ws.region ?_ | refine Ws.draw (fun bd hbd => ?_) | refine Ws.cond rfl ?_ | refine Ws.skip ?_ | refine Ws.scope ?_ | refine Ws.block ?_ | refine Ws.exit ?_ | refine Ws.ret ?_)))
    refine Ws.fresh (l := (27, .int .i64 0) :: [(2, .ptr (some (b2, 0))), (5, .ptr (some (b5, 0))), (25, v), (26, .int .i64 (cs.length : Nat))]) ⟨rfl, rfl, rfl, rfl, rfl, trivial⟩ (fun B => ?_)
    refine (f35_loop hr hb (by omega) hb5).mono ?_
    rintro r E' G ⟨rfl, hE', rfl⟩
    refine Ws.fresh hE' (fun B3 => ?_)
    by_cases hw' : -100 ≤ wlo cs cs.length ∧ whi cs cs.length ≤ 100
    · have hw : -100 ≤ wlo cs cs.length ∧ wlo cs cs.length ≤ 100 ∧ -100 ≤ whi cs cs.length ∧ whi cs cs.length ≤ 100 := by omega
      rw [e1, if_pos hw']
      (repeat' (first | (first | refine Wo.nil ?_ | refine Wd.nil ?_ | ((first | refine Wo.cons ?_ | refine Wd.cons ?_); (try refine W1.go rfl rfl ?_); ((first | refine k1 ?_ | refine k2 ?_ | (refine isDst 2 ?_; refine W1.alloc (fun b2 hb2 => ?_)) | (refine isDst 5 ?_; refine W1.alloc (fun b5 hb5 => ?_)) | refine W1.cO ?_ | (refine isDst 22 ?_; refine W1.pure rfl rfl (f67_t hr.cons (by omega) hb) ?_) | (refine isDst 61 ?_; refine W1.pure rfl rfl (f53_2t (List.mem_cons_self ..) hw) ?_) | (refine isDst 61 ?_; refine W1.pure rfl rfl (f53_2f (List.mem_cons_self ..) hw) ?_) | (refine isLen ?_; refine W1.lenR inR rfl ?_) | refine W1.auto ?_ | ((first | refine kA ?_ | refine kB ?_ | refine kC ?_ | refine kD ?_ | refine kE ?_ | refine kF ?_ | refine kG ?_); refine ⟨fun _ => ?_, fun _ => ?_⟩) | refine W1.alloc (fun _ _ => ?_) | refine W1.boxA rfl (fun _ _ => ?_) | refine kq (fun _ _ => ?_) | refine kp ?_ | (refine isIaddrs ?_; first | refine W1.iaddrI inI rfl rfl (by omega) (fun _ _ _ _ _ _ => ?_) | refine W1.iaddrR inR rfl rfl (by omega) (fun _ _ _ _ _ _ _ => ?_)) | (refine isBox ?_; refine W1.boxS inW (by rfl) (fun _ _ => ?_)) | (refine isBslice ?_; refine W1.bslice (fill_all inC rfl) (fun _ _ => ?_))) <;> (try refine ⟨fun _ => rfl, ?_⟩)))) | (first | refine Ws.seq ?_ | refine Ws.region ?_ | refine Ws.draw (fun bd hbd => ?_) | refine Ws.cond rfl ?_ | refine Ws.skip ?_ | refine Ws.scope ?_ | refine Ws.block ?_ | refine Ws.exit ?_ | refine Ws.ret ?_)))
      (refine FnEnd.ret (F' := F) (vs := [_, _]) (by (first | refine ResF.tmp inW ?_ | refine ResF.cell rfl inF inP ?_); (first | refine ResF.tmp inW ?_ | refine ResF.cell rfl inF inP ?_); exact ResF.nil) inS ⟨?_, rfl⟩)
      rfl
    · have hw : ¬ (-100 ≤ wlo cs cs.length ∧ wlo cs cs.length ≤ 100 ∧ -100 ≤ whi cs cs.length ∧ whi cs cs.length ≤ 100) := by omega
      rw [e1, if_neg hw']
      (repeat' (first | (first | refine Wo.nil ?_ | refine Wd.nil ?_ | ((first | refine Wo.cons ?_ | refine Wd.cons ?_); (try refine W1.go rfl rfl ?_); ((first | refine k1 ?_ | refine k2 ?_ | (refine isDst 2 ?_; refine W1.alloc (fun b2 hb2 => ?_)) | (refine isDst 5 ?_; refine W1.alloc (fun b5 hb5 => ?_)) | refine W1.cO ?_ | (refine isDst 22 ?_; refine W1.pure rfl rfl (f67_t hr.cons (by omega) hb) ?_) | (refine isDst 61 ?_; refine W1.pure rfl rfl (f53_2t (List.mem_cons_self ..) hw) ?_) | (refine isDst 61 ?_; refine W1.pure rfl rfl (f53_2f (List.mem_cons_self ..) hw) ?_) | (refine isLen ?_; refine W1.lenR inR rfl ?_) | refine W1.auto ?_ | ((first | refine kA ?_ | refine kB ?_ | refine kC ?_ | refine kD ?_ | refine kE ?_ | refine kF ?_ | refine kG ?_); refine ⟨fun _ => ?_, fun _ => ?_⟩) | refine W1.alloc (fun _ _ => ?_) | refine W1.boxA rfl (fun _ _ => ?_) | refine kq (fun _ _ => ?_) | refine kp ?_ | (refine isIaddrs ?_; first | refine W1.iaddrI inI rfl rfl (by omega) (fun _ _ _ _ _ _ => ?_) | refine W1.iaddrR inR rfl rfl (by omega) (fun _ _ _ _ _ _ _ => ?_)) | (refine isBox ?_; refine W1.boxS inW (by rfl) (fun _ _ => ?_)) | (refine isBslice ?_; refine W1.bslice (fill_all inC rfl) (fun _ _ => ?_))) <;> (try refine ⟨fun _ => rfl, ?_⟩)))) | (first | refine Ws.seq ?_ | refine Ws.region ?_ | refine Ws.draw (fun bd hbd => ?_) | refine Ws.cond rfl ?_ | refine Ws.skip ?_ | refine Ws.scope ?_ | refine Ws.block ?_ | refine Ws.exit ?_ | refine Ws.ret ?_)))
      (refine FnEnd.ret (F' := F) (vs := [_, _]) (by (first | refine ResF.tmp inW ?_ | refine ResF.cell rfl inF inP ?_); (first | refine ResF.tmp inW ?_ | refine ResF.cell rfl inF inP ?_); exact ResF.nil) inS ⟨?_, rfl⟩)
      rfl
end Go.Ax
