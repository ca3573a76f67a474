/-
  Contracts: the bound of a set.
-/
import Derived.Test.YtjcehnfhkgbpiaaXNI
namespace Go.Ax
set_option maxHeartbeats 1000000
set_option maxRecDepth 6000
set_option linter.unusedSimpArgs false
set_option linter.unusedVariables false
attribute [-simp] List.getD_eq_getElem?_getD
variable {lo : Nat} {F : Hp}
theorem f62_ok {u : Fl} : Pure tblW (fnv 62) [.agg (flc u)] F (.int .i64 u.lo) := by
  intro lo
  refine Fn.func (fn := af62) rfl rfl ?_
  (repeat' (first | (first | refine Wo.nil ?_ | refine Wd.nil ?_ | ((first | refine Wo.cons ?_ | refine Wd.cons ?_); (try refine W1.go rfl rfl ?_); ((first | refine k1 ?_ | refine k2 ?_ | refine W1.auto ?_ | ((first | refine kA ?_ | refine kB ?_ | refine kC ?_ | refine kD ?_ | refine kE ?_ | refine kF ?_ | refine kG ?_); refine ⟨fun _ => ?_, fun _ => ?_⟩) | refine W1.alloc (fun _ _ => ?_) | refine W1.boxA rfl (fun _ _ => ?_)) <;> (try refine ⟨fun _ => rfl, ?_⟩)))) | (first | refine Ws.seq ?_ | refine Ws.region ?_ | refine Ws.draw (fun bd hbd => ?_) | refine Ws.cond rfl ?_ | refine Ws.skip ?_ | refine Ws.scope ?_ | refine Ws.block ?_ | refine Ws.exit ?_ | refine Ws.ret ?_)))
  (refine FnEnd.ret (F' := F) (vs := [_]) (by (first | refine ResF.tmp inW ?_ | refine ResF.cell rfl inF inP ?_); exact ResF.nil) inS ⟨?_, rfl⟩)
  rfl
theorem f63_ok {u : Fl} : Pure tblW (fnv 63) [.agg (flc u)] F (.int .i64 u.hi) := by
  intro lo
  refine Fn.func (fn := af63) rfl rfl ?_
  (repeat' (first | (first | refine Wo.nil ?_ | refine Wd.nil ?_ | ((first | refine Wo.cons ?_ | refine Wd.cons ?_); (try refine W1.go rfl rfl ?_); ((first | refine k1 ?_ | refine k2 ?_ | refine W1.auto ?_ | ((first | refine kA ?_ | refine kB ?_ | refine kC ?_ | refine kD ?_ | refine kE ?_ | refine kF ?_ | refine kG ?_); refine ⟨fun _ => ?_, fun _ => ?_⟩) | refine W1.alloc (fun _ _ => ?_) | refine W1.boxA rfl (fun _ _ => ?_)) <;> (try refine ⟨fun _ => rfl, ?_⟩)))) | (first | refine Ws.seq ?_ | refine Ws.region ?_ | refine Ws.draw (fun bd hbd => ?_) | refine Ws.cond rfl ?_ | refine Ws.skip ?_ | refine Ws.scope ?_ | refine Ws.block ?_ | refine Ws.exit ?_ | refine Ws.ret ?_)))
  (refine FnEnd.ret (F' := F) (vs := [_]) (by (first | refine ResF.tmp inW ?_ | refine ResF.cell rfl inF inP ?_); exact ResF.nil) inS ⟨?_, rfl⟩)
  rfl
def inF' (high : Bool) (u : Fl) : Int := bif high then u.hi else u.lo
def outF' (high : Bool) (u : Fl) : Int := bif high then u.lo else u.hi
def inV (fs : List Fl) (high : Bool) (l : List Int) (i : Nat) : Int := if crs l (turnF (gF fs i)) = true then inF' high (gF fs i) else 0
def outV (fs : List Fl) (high : Bool) (l : List Int) (i : Nat) : Int := if crs l (gF fs i) = true then outF' high (gF fs i) else 0
theorem bndS_split {fs : List Fl} {k : Nat} {high : Bool} {l : List Int} (hk : k < fs.length) (h1 : hasT l (gF fs k).f = true) (h2 : hasT l (gF fs k).t = false) : bndS fs k high (hasT l) = outF' high (gF fs k) + sumN (inV fs high l) fs.length - sumN (outV fs high l) fs.length := by
  unfold bndS
  have e1 : sumN (bndI fs k high (hasT l)) fs.length = sumN (inV fs high l) fs.length - sumN (fun i => if i = k then 0 else outV fs high l i) fs.length := by
    rw [← sumN_sub]
    refine sumN_congr fun i _ => ?_
    unfold bndI inV outV crs turnF inF' outF'
    by_cases e : i = k
    · subst e; rw [h1, h2]; simp
    · cases hasT l (gF fs i).f <;> cases hasT l (gF fs i).t <;> simp [e]
  have e2 := sumN_one (g := outV fs high l) (h := fun i => if i = k then 0 else outV fs high l i) (j := k) (fun i hi => (if_neg hi).symm) hk
  have e3 : outV fs high l k = outF' high (gF fs k) := by unfold outV crs; rw [h1, h2]; rfl
  rw [if_pos rfl, e3] at e2
  rw [e1, e2]; omega
section
variable {T : Int} {fs : List Fl}
theorem Net.inF (h : Net T fs) {i : Nat} (hi : i < fs.length) (high : Bool) : 0 ≤ inF' high (gF fs i) ∧ inF' high (gF fs i) ≤ 100000 ∧ 0 ≤ outF' high (gF fs i) ∧ outF' high (gF fs i) ≤ 100000 := by
  have := h.u i hi
  unfold inF' outF'
  cases high <;> simp only [cond_true, cond_false] <;> omega
theorem inV_in (h : Net T fs) (high : Bool) (l : List Int) : ∀ i, i < fs.length → 0 ≤ inV fs high l i ∧ inV fs high l i ≤ 100000 := fun i hi => by
  have := h.inF hi high
  unfold inV; split <;> omega
theorem outV_in (h : Net T fs) (high : Bool) (l : List Int) : ∀ i, i < fs.length → 0 ≤ outV fs high l i ∧ outV fs high l i ≤ 100000 := fun i hi => by
  have := h.inF hi high
  unfold outV; split <;> omega
end
theorem f28_r0 {T S1 : Int} {fs : List Fl} {l : List Int} {high : Bool} {v sv fI : AV} {b2 b3 b4 b5 b12 b13 b14 : Nat} {B : FE} (hN : Net T fs) (hr : FRow F v (fs.map turnF)) (hs : RowI F sv l) (hll : l.length ≤ 9223372036854775807) (hb14 : lo ≤ b14) (h12 : (b12, .cells [fI] true) ∈ F) (hI : ∀ {F : Hp} {u : Fl}, Pure tblW fI [.agg (flc u)] F (.int .i64 (inF' high u))) (hS : 0 ≤ S1 ∧ S1 ≤ 4000000) :
    Ws tblW lo none (af28.body.rangeAt 0) (upds B ((75, AV.fn (.func 70) [] [.ptr (some (b2, 0)), .ptr (some (b5, 0)), .ptr (some (b3, 0))]) :: (14, .ptr (some (b14, 0))) :: [(3, sv), (4, .ptr (some (b4, 0))), (12, .ptr (some (b12, 0))), (13, .ptr (some (b13, 0)))])) ((b5, ABlk.cells [AV.int .i64 0, .int .i64 0, .int .i64 0, .int .i64 0] true) :: (b3, ABlk.cells [sv] true) :: (b2, ABlk.cells [.int .i64 T, v] true) :: (b14, .cells [.int .i64 S1] true) :: F)
      fun r E' G => r = .normal ∧ E' = upds B ((75, AV.fn (.func 70) [] [.ptr (some (b2, 0)), .ptr (some (b5, 0)), .ptr (some (b3, 0))]) :: (14, .ptr (some (b14, 0))) :: [(3, sv), (4, .ptr (some (b4, 0))), (12, .ptr (some (b12, 0))), (13, .ptr (some (b13, 0)))]) ∧ G = (b5, ABlk.cells [AV.int .i64 0, .int .i64 0, .int .i64 0, .int .i64 0] true) :: (b3, ABlk.cells [sv] true) :: (b2, ABlk.cells [.int .i64 T, v] true) :: (b14, .cells [.int .i64 (S1 + sumN (inV fs high l) fs.length)] true) :: F := by
  show Ws tblW lo none (.rangeF _ _ _ _) _ _ _
  refine Ws.rangeV (fv := AV.fn (.func 70) [] [.ptr (some (b2, 0)), .ptr (some (b5, 0)), .ptr (some (b3, 0))]) rfl rfl fun L rdy bsy hL hy => ?_
  have hyv := @hy
  clear hy
  have hn := hN.n
  have hlm : (fs.map turnF).length = fs.length := List.length_map ..
  have e0 : S1 + sumN (inV fs high l) 0 = S1 := Int.add_zero _
  refine (f70_ok (T := T) (fs := fs.map turnF) (l := l) (v := v) (sv := sv) hN.turn (by omega) hll (fun i H => H = (L, rdy) :: (b5, ABlk.cells [AV.int .i64 0, .int .i64 0, .int .i64 0, .int .i64 0] true) :: (b3, ABlk.cells [sv] true) :: (b2, ABlk.cells [.int .i64 T, v] true) :: (b14, .cells [.int .i64 (S1 + sumN (inV fs high l) i)] true) :: F) ?_ ?_ ?_ (by rw [e0])).mono ?_
  · rintro i H rfl
    exact ⟨inF, inF, inF, hr.cons.cons.cons.cons.cons, hs.cons.cons.cons.cons.cons⟩
  · rintro i H hic rfl hc
    rw [hlm] at hic
    rw [gF_turn hic] at hc
    have e : inV fs high l i = 0 := by unfold inV; rw [if_neg (by rw [hc]; simp)]
    simp only [sumN, e, Int.add_zero]
  · rintro i H hic rfl hc
    rw [hlm] at hic
    rw [gF_turn hic] at hc ⊢
    have e : inV fs high l i = inF' high (turnF (gF fs i)) := by unfold inV; rw [if_pos hc]; rfl
    have hb := sumN_bound (n := i) fun j hj => inV_in hN high l j (by omega)
    have hu : 0 ≤ inF' high (turnF (gF fs i)) ∧ inF' high (turnF (gF fs i)) ≤ 100000 := ⟨(hN.inF hic high).1, (hN.inF hic high).2.1⟩
    generalize eS : sumN (inV fs high l) i = S at *
    have eS' : S1 + sumN (inV fs high l) (i + 1) = S1 + S + inF' high (turnF (gF fs i)) := by simp only [sumN, e, eS]; omega
    have hc81 : ∀ {F : Hp}, Pure tblW fI [.agg (flc (turnF (gF fs i)))] F (.int .i64 (inF' high (turnF (gF fs i)))) := fun {F} => hI
    generalize inF' high (turnF (gF fs i)) = z at *
    refine hyv (List.mem_cons_self ..) hL rfl ?_
    clear hyv hI
    have h12x : ∀ c : Nat × ABlk, (b12, ABlk.cells [fI] true) ∈ c :: (L, bsy) :: (b5, ABlk.cells [AV.int .i64 0, .int .i64 0, .int .i64 0, .int .i64 0] true) :: (b3, ABlk.cells [sv] true) :: (b2, ABlk.cells [.int .i64 T, v] true) :: (b14, ABlk.cells [.int .i64 (S1 + S)] true) :: F := fun c => List.mem_cons_of_mem _ (List.mem_cons_of_mem _ (List.mem_cons_of_mem _ (List.mem_cons_of_mem _ (List.mem_cons_of_mem _ (List.mem_cons_of_mem _ h12)))))
    (repeat' (first | (first | refine Wo.nil ?_ | refine Wd.nil ?_ | ((first | refine Wo.cons ?_ | refine Wd.cons ?_); (try refine W1.go rfl rfl ?_); ((first | refine k1 ?_ | refine k2 ?_ | (refine isDst 78 ?_; refine W1.load1R rfl inF rfl (ltAll (by assumption) inF) ?_) | (refine isDst 79 ?_; refine W1.load1R rfl (h12x _) rfl (ltAll (by assumption) (h12x _)) ?_) | (refine isDst 81 ?_; refine W1.pure rfl rfl hc81 ?_) | (refine isTo 14 ?_; refine W1.storeInt (l' := [.int .i64 (S1 + S + z)]) rfl rfl inF rfl inU inN hb14 ?_) | refine W1.auto ?_ | ((first | refine kA ?_ | refine kB ?_ | refine kC ?_ | refine kD ?_ | refine kE ?_ | refine kF ?_ | refine kG ?_); refine ⟨fun _ => ?_, fun _ => ?_⟩) | refine W1.alloc (fun _ _ => ?_) | refine W1.boxA rfl (fun _ _ => ?_)) <;> (try refine ⟨fun _ => rfl, ?_⟩)))) | (first | refine Ws.seq ?_ | refine Ws.region ?_ | refine Ws.draw (fun bd hbd => ?_) | refine Ws.cond rfl ?_ | refine Ws.skip ?_ | refine Ws.scope ?_ | refine Ws.block ?_ | refine Ws.exit ?_ | refine Ws.ret ?_)))
    refine ⟨rfl, _, inU, Ws.shrink ?_⟩
    (repeat' (first | (first | refine Wo.nil ?_ | refine Wd.nil ?_ | ((first | refine Wo.cons ?_ | refine Wd.cons ?_); (try refine W1.go rfl rfl ?_); ((first | refine k1 ?_ | refine k2 ?_ | (refine isDst 78 ?_; refine W1.load1R rfl inF rfl (ltAll (by assumption) inF) ?_) | (refine isDst 79 ?_; refine W1.load1R rfl (h12x _) rfl (ltAll (by assumption) (h12x _)) ?_) | (refine isDst 81 ?_; refine W1.pure rfl rfl hc81 ?_) | (refine isTo 14 ?_; refine W1.storeInt (l' := [.int .i64 (S1 + S + z)]) rfl rfl inF rfl inU inN hb14 ?_) | refine W1.auto ?_ | ((first | refine kA ?_ | refine kB ?_ | refine kC ?_ | refine kD ?_ | refine kE ?_ | refine kF ?_ | refine kG ?_); refine ⟨fun _ => ?_, fun _ => ?_⟩) | refine W1.alloc (fun _ _ => ?_) | refine W1.boxA rfl (fun _ _ => ?_)) <;> (try refine ⟨fun _ => rfl, ?_⟩)))) | (first | refine Ws.seq ?_ | refine Ws.region ?_ | refine Ws.draw (fun bd hbd => ?_) | refine Ws.cond rfl ?_ | refine Ws.skip ?_ | refine Ws.scope ?_ | refine Ws.block ?_ | refine Ws.exit ?_ | refine Ws.ret ?_)))
    refine ⟨(L, bsy) :: (b5, ABlk.cells [AV.int .i64 0, .int .i64 0, .int .i64 0, .int .i64 0] true) :: (b3, ABlk.cells [sv] true) :: (b2, ABlk.cells [.int .i64 T, v] true) :: (b14, .cells [.int .i64 (S1 + S + z)] true) :: F, .cons _ (List.Sublist.refl _), rfl, _, .head, rfl, ?_⟩
    rw [eS']
  · rintro r G rfl
    rw [hlm]
    exact ⟨_, .head, rfl, rfl, rfl⟩
theorem f28_r1 {T S1 : Int} {fs : List Fl} {l : List Int} {high : Bool} {v sv fI : AV} {b2 b3 b4 b5 b12 b13 b14 : Nat} {B : FE} (hN : Net T fs) (hr : FRow F v fs) (hs : RowI F sv l) (hll : l.length ≤ 9223372036854775807) (hb14 : lo ≤ b14) (h13 : (b13, .cells [fI] true) ∈ F) (hI : ∀ {F : Hp} {u : Fl}, Pure tblW fI [.agg (flc u)] F (.int .i64 (outF' high u))) (hS : 0 ≤ S1 ∧ S1 ≤ 8000000) :
    Ws tblW lo none (af28.body.rangeAt 1) (upds B ((85, AV.fn (.func 70) [] [.ptr (some (b2, 0)), .ptr (some (b5, 0)), .ptr (some (b3, 0))]) :: (14, .ptr (some (b14, 0))) :: [(3, sv), (4, .ptr (some (b4, 0))), (12, .ptr (some (b12, 0))), (13, .ptr (some (b13, 0)))])) ((b5, ABlk.cells [AV.int .i64 0, .int .i64 0, .int .i64 0, .int .i64 0] true) :: (b3, ABlk.cells [sv] true) :: (b2, ABlk.cells [.int .i64 T, v] true) :: (b14, .cells [.int .i64 S1] true) :: F)
      fun r E' G => r = .normal ∧ E' = upds B ((85, AV.fn (.func 70) [] [.ptr (some (b2, 0)), .ptr (some (b5, 0)), .ptr (some (b3, 0))]) :: (14, .ptr (some (b14, 0))) :: [(3, sv), (4, .ptr (some (b4, 0))), (12, .ptr (some (b12, 0))), (13, .ptr (some (b13, 0)))]) ∧ G = (b5, ABlk.cells [AV.int .i64 0, .int .i64 0, .int .i64 0, .int .i64 0] true) :: (b3, ABlk.cells [sv] true) :: (b2, ABlk.cells [.int .i64 T, v] true) :: (b14, .cells [.int .i64 (S1 - sumN (outV fs high l) fs.length)] true) :: F := by
  show Ws tblW lo none (.rangeF _ _ _ _) _ _ _
  refine Ws.rangeV (fv := AV.fn (.func 70) [] [.ptr (some (b2, 0)), .ptr (some (b5, 0)), .ptr (some (b3, 0))]) rfl rfl fun L rdy bsy hL hy => ?_
  have hyv := @hy
  clear hy
  have hn := hN.n
  have e0 : S1 - sumN (outV fs high l) 0 = S1 := Int.sub_zero _
  refine (f70_ok (T := T) (fs := fs) (l := l) (v := v) (sv := sv) hN.ne (by omega) hll (fun i H => H = (L, rdy) :: (b5, ABlk.cells [AV.int .i64 0, .int .i64 0, .int .i64 0, .int .i64 0] true) :: (b3, ABlk.cells [sv] true) :: (b2, ABlk.cells [.int .i64 T, v] true) :: (b14, .cells [.int .i64 (S1 - sumN (outV fs high l) i)] true) :: F) ?_ ?_ ?_ (by rw [e0])).mono ?_
  · rintro i H rfl
    exact ⟨inF, inF, inF, hr.cons.cons.cons.cons.cons, hs.cons.cons.cons.cons.cons⟩
  · rintro i H hic rfl hc
    have e : outV fs high l i = 0 := by unfold outV; rw [if_neg (by rw [hc]; simp)]
    simp only [sumN, e, Int.add_zero]
  · rintro i H hic rfl hc
    have e : outV fs high l i = outF' high (gF fs i) := by unfold outV; rw [if_pos hc]
    have hb := sumN_bound (n := i) fun j hj => outV_in hN high l j (by omega)
    have hu : 0 ≤ outF' high (gF fs i) ∧ outF' high (gF fs i) ≤ 100000 := (hN.inF hic high).2.2
    generalize eS : sumN (outV fs high l) i = S at *
    have eS' : S1 - sumN (outV fs high l) (i + 1) = S1 - S - outF' high (gF fs i) := by simp only [sumN, e, eS]; omega
    have hc91 : ∀ {F : Hp}, Pure tblW fI [.agg (flc (gF fs i))] F (.int .i64 (outF' high (gF fs i))) := fun {F} => hI
    generalize outF' high (gF fs i) = z at *
    refine hyv (List.mem_cons_self ..) hL rfl ?_
    clear hyv hI
    have h13x : ∀ c : Nat × ABlk, (b13, ABlk.cells [fI] true) ∈ c :: (L, bsy) :: (b5, ABlk.cells [AV.int .i64 0, .int .i64 0, .int .i64 0, .int .i64 0] true) :: (b3, ABlk.cells [sv] true) :: (b2, ABlk.cells [.int .i64 T, v] true) :: (b14, ABlk.cells [.int .i64 (S1 - S)] true) :: F := fun c => List.mem_cons_of_mem _ (List.mem_cons_of_mem _ (List.mem_cons_of_mem _ (List.mem_cons_of_mem _ (List.mem_cons_of_mem _ (List.mem_cons_of_mem _ h13)))))
    (repeat' (first | (first | refine Wo.nil ?_ | refine Wd.nil ?_ | ((first | refine Wo.cons ?_ | refine Wd.cons ?_); (try refine W1.go rfl rfl ?_); ((first | refine k1 ?_ | refine k2 ?_ | (refine isDst 88 ?_; refine W1.load1R rfl inF rfl (ltAll (by assumption) inF) ?_) | (refine isDst 89 ?_; refine W1.load1R rfl (h13x _) rfl (ltAll (by assumption) (h13x _)) ?_) | (refine isDst 91 ?_; refine W1.pure rfl rfl hc91 ?_) | (refine isTo 14 ?_; refine W1.storeInt (l' := [.int .i64 (S1 - S - z)]) rfl rfl inF rfl inU inN hb14 ?_) | refine W1.auto ?_ | ((first | refine kA ?_ | refine kB ?_ | refine kC ?_ | refine kD ?_ | refine kE ?_ | refine kF ?_ | refine kG ?_); refine ⟨fun _ => ?_, fun _ => ?_⟩) | refine W1.alloc (fun _ _ => ?_) | refine W1.boxA rfl (fun _ _ => ?_)) <;> (try refine ⟨fun _ => rfl, ?_⟩)))) | (first | refine Ws.seq ?_ | refine Ws.region ?_ | refine Ws.draw (fun bd hbd => ?_) | refine Ws.cond rfl ?_ | refine Ws.skip ?_ | refine Ws.scope ?_ | refine Ws.block ?_ | refine Ws.exit ?_ | refine Ws.ret ?_)))
    refine ⟨rfl, _, inU, Ws.shrink ?_⟩
    (repeat' (first | (first | refine Wo.nil ?_ | refine Wd.nil ?_ | ((first | refine Wo.cons ?_ | refine Wd.cons ?_); (try refine W1.go rfl rfl ?_); ((first | refine k1 ?_ | refine k2 ?_ | (refine isDst 88 ?_; refine W1.load1R rfl inF rfl (ltAll (by assumption) inF) ?_) | (refine isDst 89 ?_; refine W1.load1R rfl (h13x _) rfl (ltAll (by assumption) (h13x _)) ?_) | (refine isDst 91 ?_; refine W1.pure rfl rfl hc91 ?_) | (refine isTo 14 ?_; refine W1.storeInt (l' := [.int .i64 (S1 - S - z)]) rfl rfl inF rfl inU inN hb14 ?_) | refine W1.auto ?_ | ((first | refine kA ?_ | refine kB ?_ | refine kC ?_ | refine kD ?_ | refine kE ?_ | refine kF ?_ | refine kG ?_); refine ⟨fun _ => ?_, fun _ => ?_⟩) | refine W1.alloc (fun _ _ => ?_) | refine W1.boxA rfl (fun _ _ => ?_)) <;> (try refine ⟨fun _ => rfl, ?_⟩)))) | (first | refine Ws.seq ?_ | refine Ws.region ?_ | refine Ws.draw (fun bd hbd => ?_) | refine Ws.cond rfl ?_ | refine Ws.skip ?_ | refine Ws.scope ?_ | refine Ws.block ?_ | refine Ws.exit ?_ | refine Ws.ret ?_)))
    refine ⟨(L, bsy) :: (b5, ABlk.cells [AV.int .i64 0, .int .i64 0, .int .i64 0, .int .i64 0] true) :: (b3, ABlk.cells [sv] true) :: (b2, ABlk.cells [.int .i64 T, v] true) :: (b14, .cells [.int .i64 (S1 - S - z)] true) :: F, .cons _ (List.Sublist.refl _), rfl, _, .head, rfl, ?_⟩
    rw [eS']
  · rintro r G rfl
    exact ⟨_, .head, rfl, rfl, rfl⟩
end Go.Ax
