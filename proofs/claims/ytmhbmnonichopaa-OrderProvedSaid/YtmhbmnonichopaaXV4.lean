/-
  Contracts: what the values' fixpoint calls.
-/
import Derived.Test.YtmhbmnonichopaaXV3
namespace Go.Ax
set_option maxHeartbeats 4000000
set_option maxRecDepth 20000
set_option linter.unusedSimpArgs false
set_option linter.unusedVariables false
variable {lo : Nat} {F : Hp}

theorem f64_ok {v : AV} {xs : List Int} (hv : RowI F v xs) (h1 : 1 ≤ xs.length) (hl : xs.length ≤ 1000000) : Pure tblW (fnv 64) [v] F (.int .i64 (mxl xs (xs.length - 1))) := by
  intro lo
  refine Fn.func (fn := af64) rfl rfl ?_
  (repeat' (first | (first | refine Wo.nil ?_ | refine Wd.nil ?_ | ((first | refine Wo.cons ?_ | refine Wd.cons ?_); (try refine W1.go rfl rfl ?_); ((first | refine k1 ?_ | refine k2 ?_ | (refine isIaddrs ?_; first | refine W1.iaddrIz 0 inI rfl rfl rfl (by omega) (fun _ _ _ _ _ _ => ?_) | refine W1.iaddrIz (i + 1) inI rfl rfl (by omega) (by omega) (fun _ _ _ _ _ _ => ?_)) | (refine isBinLss ?_; first | refine W1.lss rfl rfl (fun hx => absurd hx (by omega)) (fun _ => ?_) | refine W1.lss rfl rfl (fun _ => ?_) (fun hx => absurd hx (by omega))) | refine W1.auto ?_ | ((first | refine kA ?_ | refine kB ?_ | refine kC ?_ | refine kD ?_ | refine kE ?_ | refine kF ?_ | refine kG ?_); refine ⟨fun _ => ?_, fun _ => ?_⟩) | refine W1.alloc (fun _ _ => ?_) | refine W1.boxA rfl (fun _ _ => ?_) | refine kq (fun _ _ => ?_) | refine kp ?_ | (refine isIaddrs ?_; first | refine W1.iaddrI inI rfl rfl (by omega) (fun _ _ _ _ _ _ => ?_) | refine W1.iaddrR inR rfl rfl (by omega) (fun _ _ _ _ _ _ _ => ?_)) | (refine isBox ?_; refine W1.boxS inW (by rfl) (fun _ _ => ?_)) | (refine isBslice ?_; refine W1.bslice (fill_all inC rfl) (fun _ _ => ?_))) <;> (try refine ⟨fun _ => rfl, ?_⟩)))) | (first | refine Ws.seq ?_ | refine Ws.region ?_ | refine Ws.draw (fun bd hbd => ?_) | refine Ws.cond rfl ?_ | refine Ws.skip ?_ | refine Ws.scope ?_ | refine Ws.block ?_ | refine Ws.exit ?_ | refine Ws.ret ?_)))
  refine Ws.loopD 16773144 rfl [(0, _)] ⟨inW, trivial⟩ [0] rfl rfl (X := Nat) (fun i => [(3, .int .i64 (mxl xs i)), (4, .int .i64 ((i : Int) + 1))]) (fun _ => F) (fun i => i ≤ xs.length - 1) (fun i => xs.length - i) 0 ⟨rfl, rfl, trivial⟩ inS (Nat.zero_le _) ?_
  intro i B hi
  by_cases hin : i + 1 < xs.length
  · (repeat' (first | (first | refine Wo.nil ?_ | refine Wd.nil ?_ | ((first | refine Wo.cons ?_ | refine Wd.cons ?_); (try refine W1.go rfl rfl ?_); ((first | refine k1 ?_ | refine k2 ?_ | (refine isIaddrs ?_; first | refine W1.iaddrIz 0 inI rfl rfl rfl (by omega) (fun _ _ _ _ _ _ => ?_) | refine W1.iaddrIz (i + 1) inI rfl rfl (by omega) (by omega) (fun _ _ _ _ _ _ => ?_)) | (refine isBinLss ?_; first | refine W1.lss rfl rfl (fun hx => absurd hx (by omega)) (fun _ => ?_) | refine W1.lss rfl rfl (fun _ => ?_) (fun hx => absurd hx (by omega))) | refine W1.auto ?_ | ((first | refine kA ?_ | refine kB ?_ | refine kC ?_ | refine kD ?_ | refine kE ?_ | refine kF ?_ | refine kG ?_); refine ⟨fun _ => ?_, fun _ => ?_⟩) | refine W1.alloc (fun _ _ => ?_) | refine W1.boxA rfl (fun _ _ => ?_) | refine kq (fun _ _ => ?_) | refine kp ?_ | (refine isIaddrs ?_; first | refine W1.iaddrI inI rfl rfl (by omega) (fun _ _ _ _ _ _ => ?_) | refine W1.iaddrR inR rfl rfl (by omega) (fun _ _ _ _ _ _ _ => ?_)) | (refine isBox ?_; refine W1.boxS inW (by rfl) (fun _ _ => ?_)) | (refine isBslice ?_; refine W1.bslice (fill_all inC rfl) (fun _ _ => ?_))) <;> (try refine ⟨fun _ => rfl, ?_⟩)))) | (first | refine Ws.seq ?_ | refine Ws.region ?_ | refine Ws.draw (fun bd hbd => ?_) | refine Ws.cond rfl ?_ | refine Ws.skip ?_ | refine Ws.scope ?_ | refine Ws.block ?_ | refine Ws.exit ?_ | refine Ws.ret ?_)))
    exact ⟨i + 1, ⟨rfl, rfl, trivial⟩, inS, by show i + 1 ≤ _; omega, by show _ - (i + 1) < _; omega⟩
  · have e : i = xs.length - 1 := by omega
    subst e
    (repeat' (first | (first | refine Wo.nil ?_ | refine Wd.nil ?_ | ((first | refine Wo.cons ?_ | refine Wd.cons ?_); (try refine W1.go rfl rfl ?_); ((first | refine k1 ?_ | refine k2 ?_ | (refine isIaddrs ?_; first | refine W1.iaddrIz 0 inI rfl rfl rfl (by omega) (fun _ _ _ _ _ _ => ?_) | refine W1.iaddrIz (i + 1) inI rfl rfl (by omega) (by omega) (fun _ _ _ _ _ _ => ?_)) | (refine isBinLss ?_; first | refine W1.lss rfl rfl (fun hx => absurd hx (by omega)) (fun _ => ?_) | refine W1.lss rfl rfl (fun _ => ?_) (fun hx => absurd hx (by omega))) | refine W1.auto ?_ | ((first | refine kA ?_ | refine kB ?_ | refine kC ?_ | refine kD ?_ | refine kE ?_ | refine kF ?_ | refine kG ?_); refine ⟨fun _ => ?_, fun _ => ?_⟩) | refine W1.alloc (fun _ _ => ?_) | refine W1.boxA rfl (fun _ _ => ?_) | refine kq (fun _ _ => ?_) | refine kp ?_ | (refine isIaddrs ?_; first | refine W1.iaddrI inI rfl rfl (by omega) (fun _ _ _ _ _ _ => ?_) | refine W1.iaddrR inR rfl rfl (by omega) (fun _ _ _ _ _ _ _ => ?_)) | (refine isBox ?_; refine W1.boxS inW (by rfl) (fun _ _ => ?_)) | (refine isBslice ?_; refine W1.bslice (fill_all inC rfl) (fun _ _ => ?_))) <;> (try refine ⟨fun _ => rfl, ?_⟩)))) | (first | refine Ws.seq ?_ | refine Ws.region ?_ | refine Ws.draw (fun bd hbd => ?_) | refine Ws.cond rfl ?_ | refine Ws.skip ?_ | refine Ws.scope ?_ | refine Ws.block ?_ | refine Ws.exit ?_ | refine Ws.ret ?_)))
    (refine FnEnd.ret (F' := F) (vs := [_]) (by (first | refine ResF.tmp inW ?_ | refine ResF.cell rfl inF inP ?_); exact ResF.nil) inS ⟨?_, rfl⟩)
    rfl

theorem f65_ok {k : K} {sv cv ov : AV} {rest : List AV} {bb d : Nat} {x : Int} (hm : (bb, .cells (bcells k sv cv ov rest) true) ∈ F) (ho : RowR F ov (bnds k k.sales.length)) (hd : d < k.sales.length) :
    Pure tblW (.fn (.func 65) [.ptr (some (bb, 0))] []) [.int .i64 (d : Nat), .int .i64 x] F (.bool (decide (x < rm k d))) := by
  intro lo
  have hbl := bnds_len k k.sales.length
  have e2 : ((bnds k k.sales.length).getD d (0, 0)).2 = rm k d := by rw [bnds_get k hd]
  refine Fn.func (fn := af65) rfl rfl ?_
  (repeat' (first | (first | refine Wo.nil ?_ | refine Wd.nil ?_ | ((first | refine Wo.cons ?_ | refine Wd.cons ?_); (try refine W1.go rfl rfl ?_); ((first | refine k1 ?_ | refine k2 ?_ | (refine isLoad ?_; refine W1.load1 rfl inF (show (bcells k sv cv ov rest)[0 + 7]? = some ov from rfl) ?_) | refine W1.auto ?_ | ((first | refine kA ?_ | refine kB ?_ | refine kC ?_ | refine kD ?_ | refine kE ?_ | refine kF ?_ | refine kG ?_); refine ⟨fun _ => ?_, fun _ => ?_⟩) | refine W1.alloc (fun _ _ => ?_) | refine W1.boxA rfl (fun _ _ => ?_) | refine kq (fun _ _ => ?_) | refine kp ?_ | (refine isIaddrs ?_; first | refine W1.iaddrI inI rfl rfl (by omega) (fun _ _ _ _ _ _ => ?_) | refine W1.iaddrR inR rfl rfl (by omega) (fun _ _ _ _ _ _ _ => ?_)) | (refine isBox ?_; refine W1.boxS inW (by rfl) (fun _ _ => ?_)) | (refine isBslice ?_; refine W1.bslice (fill_all inC rfl) (fun _ _ => ?_))) <;> (try refine ⟨fun _ => rfl, ?_⟩)))) | (first | refine Ws.seq ?_ | refine Ws.region ?_ | refine Ws.draw (fun bd hbd => ?_) | refine Ws.cond rfl ?_ | refine Ws.skip ?_ | refine Ws.scope ?_ | refine Ws.block ?_ | refine Ws.exit ?_ | refine Ws.ret ?_)))
  · (refine FnEnd.ret (F' := F) (vs := [_]) (by (first | refine ResF.tmp inW ?_ | refine ResF.cell rfl inF inP ?_); exact ResF.nil) inS ⟨?_, rfl⟩)
    (simp only [tupOf, AV.bool.injEq]; symm; first | (apply decide_eq_true; omega) | (apply decide_eq_false; omega))
  · (refine FnEnd.ret (F' := F) (vs := [_]) (by (first | refine ResF.tmp inW ?_ | refine ResF.cell rfl inF inP ?_); exact ResF.nil) inS ⟨?_, rfl⟩)
    (simp only [tupOf, AV.bool.injEq]; symm; first | (apply decide_eq_true; omega) | (apply decide_eq_false; omega))

theorem W1.eqnS {tbl : Nat → Option AFn} {bd : Nat} {E : FE} {d : Option Nat} {R : FE → Hp → Cls → Prop} {x y : AO} {neg : Bool} {p : Nat × Nat} {n1 c1 s1 n2 c2 s2 : Nat} {e1 e2 : Bool} (hx : xev E x = .slc (some p) n1 c1 e1 s1) (hy : xev E y = .slc none n2 c2 e2 s2) (k : R (fput E d (.bool neg)) F .n) : W1 tbl lo bd ⟨d, .eqn neg 0 x y, none⟩ E F R :=
  W1.val (v := .bool neg) (by simp only [opLocF, hx, hy, eqNil, Option.map_some]; cases neg <;> rfl) k
theorem W1.appAll {tbl : Nat → Option AFn} {bd : Nat} {E : FE} {d : Option Nat} {R : FE → Hp → Cls → Prop} {s x : AO} {sb xb cx xe es : Nat} {ex own own2 : Bool} {l0 : List AV} {xs : List Int} (hs : xev E s = .slc (some (sb, 0)) 0 0 true es) (hx : xev E x = .slc (some (xb, 0)) xs.length cx ex xe)
    (hm0 : (sb, .cells l0 own2) ∈ F) (hm : (xb, .cells (ints xs) own) ∈ F) (h1 : 1 ≤ xs.length) (hl : xs.length ≤ 1000000) (k : ∀ b, lo ≤ b → R (fput E d (.slc (some (b, 0)) xs.length xs.length false 1)) ((b, .cells (ints xs) true) :: F) .x) : W1 tbl lo bd ⟨d, .app 1 8 s x, none⟩ E F R := by
  refine W1.loc rfl fun h aid hF hfr hlo hw _ => ⟨.slc (some (aid, 0)) xs.length xs.length false 1, h.new aid (.cells (ints xs) true), .loc [sb, xb] [] (some aid), (aid, .cells (ints xs) true) :: F, .x, ?_, hF.new _ hfr, by show h.next ≤ max h.next (aid + 1); omega, hw, trivial, fun p hp => ?_, k aid hlo⟩
  · simp only [opLocF, hs, hx]
    rw [if_pos (by unfold room; omega), if_neg (by omega)]
    simp only [Loc.run, getAll, hF.get _ hm0, hF.get _ hm]
    rw [if_pos (by simp [ints])]
    simp [ints, atNew, List.take_of_length_le]
    rfl
  · rcases List.mem_cons.1 hp with rfl | hp
    · exact .inr (.inl rfl)
    · exact .inl ⟨p, hp, rfl⟩
theorem f66_ok {ob n cap es : Nat} {ex own : Bool} {xs : List Int} (hm : (ob, .cells (ints xs) own) ∈ F) (hn : n = xs.length) (h1 : 1 ≤ xs.length) (hl : xs.length ≤ 1000000) :
    Fn tblW lo (fnv 66) [.slc (some (ob, 0)) n cap ex es] F fun v F' => ∃ nb, lo ≤ nb ∧ v = .slc (some (nb, 0)) n n false 1 ∧ F' = (nb, .cells (ints xs) true) :: F := by
  subst hn
  refine Fn.func (fn := af66) rfl rfl ?_
  (repeat' (first | (first | refine Wo.nil ?_ | refine Wd.nil ?_ | ((first | refine Wo.cons ?_ | refine Wd.cons ?_); (try refine W1.go rfl rfl ?_); ((first | refine k1 ?_ | refine k2 ?_ | refine W1.eqnS rfl rfl ?_ | refine W1.appAll (xs := xs) rfl rfl inF inF h1 hl (fun _ _ => ?_) | (refine isBslice ?_; refine W1.bslice (l := []) rfl (fun _ _ => ?_)) | refine W1.auto ?_ | ((first | refine kA ?_ | refine kB ?_ | refine kC ?_ | refine kD ?_ | refine kE ?_ | refine kF ?_ | refine kG ?_); refine ⟨fun _ => ?_, fun _ => ?_⟩) | refine W1.alloc (fun _ _ => ?_) | refine W1.boxA rfl (fun _ _ => ?_) | refine kq (fun _ _ => ?_) | refine kp ?_ | (refine isIaddrs ?_; first | refine W1.iaddrI inI rfl rfl (by omega) (fun _ _ _ _ _ _ => ?_) | refine W1.iaddrR inR rfl rfl (by omega) (fun _ _ _ _ _ _ _ => ?_)) | (refine isBox ?_; refine W1.boxS inW (by rfl) (fun _ _ => ?_)) | (refine isBslice ?_; refine W1.bslice (fill_all inC rfl) (fun _ _ => ?_))) <;> (try refine ⟨fun _ => rfl, ?_⟩)))) | (first | refine Ws.seq ?_ | refine Ws.region ?_ | refine Ws.draw (fun bd hbd => ?_) | refine Ws.cond rfl ?_ | refine Ws.skip ?_ | refine Ws.scope ?_ | refine Ws.block ?_ | refine Ws.exit ?_ | refine Ws.ret ?_)))
  rename_i sb hsb nb hnb
  exact FnEnd.ret (F0 := F) (Q := fun v F' => ∃ nb, lo ≤ nb ∧ v = .slc (some (nb, 0)) xs.length xs.length false 1 ∧ F' = (nb, .cells (ints xs) true) :: F) (F' := (nb, .cells (ints xs) true) :: F) (vs := [_]) (.tmp inW .nil) inS ⟨nb, hnb, rfl, rfl⟩

theorem f67_ok {xs ys : List Int} {u v : AV} (hu : RowI F u xs) (hv : RowI F v ys) (hl : xs.length ≤ 1000000) (eq : Bool) (he : eq = true ↔ xs = ys) : Pure tblW (fnv 67) [u, v] F (.bool eq) := by
  intro lo
  refine Fn.func (fn := af67) rfl rfl ?_
  (repeat' (first | (first | refine Wo.nil ?_ | refine Wd.nil ?_ | ((first | refine Wo.cons ?_ | refine Wd.cons ?_); (try refine W1.go rfl rfl ?_); ((first | refine k1 ?_ | refine k2 ?_ | (refine isBinLss ?_; first | refine W1.lss rfl rfl (fun hx => absurd hx (by omega)) (fun _ => ?_) | refine W1.lss rfl rfl (fun _ => ?_) (fun hx => absurd hx (by omega))) | refine W1.auto ?_ | ((first | refine kA ?_ | refine kB ?_ | refine kC ?_ | refine kD ?_ | refine kE ?_ | refine kF ?_ | refine kG ?_); refine ⟨fun _ => ?_, fun _ => ?_⟩) | refine W1.alloc (fun _ _ => ?_) | refine W1.boxA rfl (fun _ _ => ?_) | refine kq (fun _ _ => ?_) | refine kp ?_ | (refine isIaddrs ?_; first | refine W1.iaddrI inI rfl rfl (by omega) (fun _ _ _ _ _ _ => ?_) | refine W1.iaddrR inR rfl rfl (by omega) (fun _ _ _ _ _ _ _ => ?_)) | (refine isBox ?_; refine W1.boxS inW (by rfl) (fun _ _ => ?_)) | (refine isBslice ?_; refine W1.bslice (fill_all inC rfl) (fun _ _ => ?_))) <;> (try refine ⟨fun _ => rfl, ?_⟩)))) | (first | refine Ws.seq ?_ | refine Ws.region ?_ | refine Ws.draw (fun bd hbd => ?_) | refine Ws.cond rfl ?_ | refine Ws.skip ?_ | refine Ws.scope ?_ | refine Ws.block ?_ | refine Ws.exit ?_ | refine Ws.ret ?_)))
  · (refine FnEnd.ret (F' := F) (vs := [_]) (by (first | refine ResF.tmp inW ?_ | refine ResF.cell rfl inF inP ?_); exact ResF.nil) inS ⟨?_, rfl⟩)
    show AV.bool _ = _
    cases eq
    · rfl
    · have := he.1 rfl
      subst this
      omega
  refine Ws.loopD 67100720 rfl [(0, _), (1, _), (12, _)] ⟨inW, inW, inW, trivial⟩ [0, 1, 12] rfl rfl (X := Nat) (fun i => [(13, .int .i64 (i : Nat))]) (fun _ => F) (fun i => i ≤ xs.length ∧ ∀ j, j < i → xs.getD j 0 = ys.getD j 0) (fun i => xs.length - i) 0
    ⟨rfl, trivial⟩ inS ⟨Nat.zero_le _, fun j hj => absurd hj (Nat.not_lt_zero j)⟩ ?_
  rintro i B ⟨hi, hb⟩
  (repeat' (first | (first | refine Wo.nil ?_ | refine Wd.nil ?_ | ((first | refine Wo.cons ?_ | refine Wd.cons ?_); (try refine W1.go rfl rfl ?_); ((first | refine k1 ?_ | refine k2 ?_ | (refine isBinLss ?_; first | refine W1.lss rfl rfl (fun hx => absurd hx (by omega)) (fun _ => ?_) | refine W1.lss rfl rfl (fun _ => ?_) (fun hx => absurd hx (by omega))) | refine W1.auto ?_ | ((first | refine kA ?_ | refine kB ?_ | refine kC ?_ | refine kD ?_ | refine kE ?_ | refine kF ?_ | refine kG ?_); refine ⟨fun _ => ?_, fun _ => ?_⟩) | refine W1.alloc (fun _ _ => ?_) | refine W1.boxA rfl (fun _ _ => ?_) | refine kq (fun _ _ => ?_) | refine kp ?_ | (refine isIaddrs ?_; first | refine W1.iaddrI inI rfl rfl (by omega) (fun _ _ _ _ _ _ => ?_) | refine W1.iaddrR inR rfl rfl (by omega) (fun _ _ _ _ _ _ _ => ?_)) | (refine isBox ?_; refine W1.boxS inW (by rfl) (fun _ _ => ?_)) | (refine isBslice ?_; refine W1.bslice (fill_all inC rfl) (fun _ _ => ?_))) <;> (try refine ⟨fun _ => rfl, ?_⟩)))) | (first | refine Ws.seq ?_ | refine Ws.region ?_ | refine Ws.draw (fun bd hbd => ?_) | refine Ws.cond rfl ?_ | refine Ws.skip ?_ | refine Ws.scope ?_ | refine Ws.block ?_ | refine Ws.exit ?_ | refine Ws.ret ?_)))
  · (refine FnEnd.ret (F' := F) (vs := [_]) (by (first | refine ResF.tmp inW ?_ | refine ResF.cell rfl inF inP ?_); exact ResF.nil) inS ⟨?_, rfl⟩)
    show AV.bool _ = _
    cases eq
    · rfl
    · have := he.1 rfl
      subst this
      exact absurd rfl (by assumption)
  · refine ⟨i + 1, ⟨rfl, trivial⟩, inS, ⟨by omega, fun j hj => ?_⟩, by omega⟩
    rcases Nat.lt_succ_iff_lt_or_eq.1 hj with h | rfl
    · exact hb j h
    · assumption
  · (refine FnEnd.ret (F' := F) (vs := [_]) (by (first | refine ResF.tmp inW ?_ | refine ResF.cell rfl inF inP ?_); exact ResF.nil) inS ⟨?_, rfl⟩)
    show AV.bool _ = _
    rw [he.2 (list_ext2 (z := 0) (by omega) fun j hj => hb j (by omega))]
end Go.Ax
