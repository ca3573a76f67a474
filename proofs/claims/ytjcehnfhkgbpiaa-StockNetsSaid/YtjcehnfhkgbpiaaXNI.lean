/-
  Contracts: by how much a set is short, twice.
-/
import Derived.Test.YtjcehnfhkgbpiaaXNG
namespace Go.Ax
set_option maxHeartbeats 1000000
set_option maxRecDepth 6000
set_option linter.unusedSimpArgs false
set_option linter.unusedVariables false
attribute [-simp] List.getD_eq_getElem?_getD
variable {lo : Nat} {F : Hp}
theorem sumN_bound {g : Nat → Int} : ∀ {n : Nat}, (∀ i, i < n → 0 ≤ g i ∧ g i ≤ 100000) → 0 ≤ sumN g n ∧ sumN g n ≤ (n : Int) * 100000
  | 0, _ => ⟨Int.le_refl _, Int.le_refl _⟩
  | n + 1, h => by
    have := sumN_bound (n := n) fun i hi => h i (by omega)
    have := h n (by omega)
    have e : ((n + 1 : Nat) : Int) = (n : Int) + 1 := by omega
    simp only [sumN]
    rw [e]; omega
def outLo (fs : List Fl) (l : List Int) (i : Nat) : Int := if crs l (gF fs i) = true then (gF fs i).lo else 0
def inHi (fs : List Fl) (l : List Int) (i : Nat) : Int := if crs l (turnF (gF fs i)) = true then (gF fs i).hi else 0
theorem shB_split {fs : List Fl} {l : List Int} : shB fs (hasT l) = sumN (outLo fs l) fs.length - sumN (inHi fs l) fs.length := by
  unfold shB
  rw [← sumN_sub]
  refine sumN_congr fun i _ => ?_
  unfold shI outLo inHi crs turnF
  cases hasT l (gF fs i).f <;> cases hasT l (gF fs i).t <;> simp
section
variable {T : Int} {fs : List Fl} {l : List Int}
theorem outLo_in (h : Net T fs) (l : List Int) : ∀ i, i < fs.length → 0 ≤ outLo fs l i ∧ outLo fs l i ≤ 100000 := fun i hi => by
  have := h.u i hi
  unfold outLo; split <;> omega
theorem inHi_in (h : Net T fs) (l : List Int) : ∀ i, i < fs.length → 0 ≤ inHi fs l i ∧ inHi fs l i ≤ 100000 := fun i hi => by
  have := h.u i hi
  unfold inHi; split <;> omega
end
abbrev rv1 (r : Int × Int) : AV := .tup [.int .i64 r.1, .int .i64 r.2]
theorem f17_r0 {T : Int} {fs : List Fl} {l : List Int} {v sv : AV} {b2 b3 b5 b7 : Nat} {B : FE} {ks : List (Nat × AV)} (hN : Net T fs) (hr : FRow F v fs) (hs : RowI F sv l) (hll : l.length ≤ 9223372036854775807) (hb7 : lo ≤ b7) :
    Ws tblW lo none (af17.body.rangeAt 0) (upds B ((26, .fn (.func 70) [] [.ptr (some (b2, 0)), .ptr (some (b5, 0)), .ptr (some (b3, 0))]) :: (7, .ptr (some (b7, 0))) :: ks)) ((b5, ABlk.cells [AV.int .i64 0, .int .i64 0, .int .i64 0, .int .i64 0] true) :: (b3, ABlk.cells [sv] true) :: (b2, ABlk.cells [.int .i64 T, v] true) :: (b7, .cells [.int .i64 0] true) :: F)
      fun r E' G => r = .normal ∧ E' = upds B ((26, .fn (.func 70) [] [.ptr (some (b2, 0)), .ptr (some (b5, 0)), .ptr (some (b3, 0))]) :: (7, .ptr (some (b7, 0))) :: ks) ∧ G = (b5, ABlk.cells [AV.int .i64 0, .int .i64 0, .int .i64 0, .int .i64 0] true) :: (b3, ABlk.cells [sv] true) :: (b2, ABlk.cells [.int .i64 T, v] true) :: (b7, .cells [.int .i64 (sumN (outLo fs l) fs.length)] true) :: F := by
  show Ws tblW lo none (.rangeF _ _ _ _) _ _ _
  refine Ws.rangeV (fv := .fn (.func 70) [] [.ptr (some (b2, 0)), .ptr (some (b5, 0)), .ptr (some (b3, 0))]) rfl rfl fun L rdy bsy hL hy => ?_
  have hyv := @hy
  clear hy
  have hn := hN.n
  refine (f70_ok (T := T) (fs := fs) (l := l) (v := v) (sv := sv) hN.ne (by omega) hll (fun i H => H = (L, rdy) :: (b5, ABlk.cells [AV.int .i64 0, .int .i64 0, .int .i64 0, .int .i64 0] true) :: (b3, ABlk.cells [sv] true) :: (b2, ABlk.cells [.int .i64 T, v] true) :: (b7, .cells [.int .i64 (sumN (outLo fs l) i)] true) :: F) ?_ ?_ ?_ rfl).mono ?_
  · rintro i H rfl
    exact ⟨inF, inF, inF, hr.cons.cons.cons.cons.cons, hs.cons.cons.cons.cons.cons⟩
  · rintro i H hic rfl hc
    have e : outLo fs l i = 0 := by unfold outLo; rw [if_neg (by rw [hc]; simp)]
    simp only [sumN, e, Int.add_zero]
  · rintro i H hic rfl hc
    have e : outLo fs l i = (gF fs i).lo := by unfold outLo; rw [if_pos hc]
    have hb := sumN_bound (n := i) fun j hj => outLo_in hN l j (by omega)
    have hu := hN.u i hic
    generalize eS : sumN (outLo fs l) i = S at *
    have eS' : sumN (outLo fs l) (i + 1) = S + (gF fs i).lo := by simp only [sumN, e, eS]
    refine hyv (List.mem_cons_self ..) hL rfl ?_
    clear hyv
    (repeat' (first | (first | refine Wo.nil ?_ | refine Wd.nil ?_ | ((first | refine Wo.cons ?_ | refine Wd.cons ?_); (try refine W1.go rfl rfl ?_); ((first | refine k1 ?_ | refine k2 ?_ | (refine isTo 7 ?_; refine W1.storeInt (l' := [.int .i64 (S + (gF fs i).lo)]) rfl rfl inF rfl inU inN hb7 ?_) | refine W1.auto ?_ | ((first | refine kA ?_ | refine kB ?_ | refine kC ?_ | refine kD ?_ | refine kE ?_ | refine kF ?_ | refine kG ?_); refine ⟨fun _ => ?_, fun _ => ?_⟩) | refine W1.alloc (fun _ _ => ?_) | refine W1.boxA rfl (fun _ _ => ?_) | refine kq (fun _ _ => ?_) | refine kp ?_ | (refine isIaddrs ?_; first | refine W1.iaddrI inI rfl rfl (by omega) (fun _ _ _ _ _ _ => ?_) | refine W1.iaddrR inR rfl rfl (by omega) (fun _ _ _ _ _ _ _ => ?_)) | (refine isBox ?_; refine W1.boxS inW (by rfl) (fun _ _ => ?_)) | (refine isBslice ?_; refine W1.bslice (fill_all inC rfl) (fun _ _ => ?_))) <;> (try refine ⟨fun _ => rfl, ?_⟩)))) | (first | refine Ws.seq ?_ | refine Ws.region ?_ | refine Ws.draw (fun bd hbd => ?_) | refine Ws.cond rfl ?_ | refine Ws.skip ?_ | refine Ws.scope ?_ | refine Ws.block ?_ | refine Ws.exit ?_ | refine Ws.ret ?_)))
    refine ⟨rfl, _, inU, Ws.shrink ?_⟩
    (repeat' (first | (first | refine Wo.nil ?_ | refine Wd.nil ?_ | ((first | refine Wo.cons ?_ | refine Wd.cons ?_); (try refine W1.go rfl rfl ?_); ((first | refine k1 ?_ | refine k2 ?_ | (refine isTo 7 ?_; refine W1.storeInt (l' := [.int .i64 (S + (gF fs i).lo)]) rfl rfl inF rfl inU inN hb7 ?_) | refine W1.auto ?_ | ((first | refine kA ?_ | refine kB ?_ | refine kC ?_ | refine kD ?_ | refine kE ?_ | refine kF ?_ | refine kG ?_); refine ⟨fun _ => ?_, fun _ => ?_⟩) | refine W1.alloc (fun _ _ => ?_) | refine W1.boxA rfl (fun _ _ => ?_) | refine kq (fun _ _ => ?_) | refine kp ?_ | (refine isIaddrs ?_; first | refine W1.iaddrI inI rfl rfl (by omega) (fun _ _ _ _ _ _ => ?_) | refine W1.iaddrR inR rfl rfl (by omega) (fun _ _ _ _ _ _ _ => ?_)) | (refine isBox ?_; refine W1.boxS inW (by rfl) (fun _ _ => ?_)) | (refine isBslice ?_; refine W1.bslice (fill_all inC rfl) (fun _ _ => ?_))) <;> (try refine ⟨fun _ => rfl, ?_⟩)))) | (first | refine Ws.seq ?_ | refine Ws.region ?_ | refine Ws.draw (fun bd hbd => ?_) | refine Ws.cond rfl ?_ | refine Ws.skip ?_ | refine Ws.scope ?_ | refine Ws.block ?_ | refine Ws.exit ?_ | refine Ws.ret ?_)))
    refine ⟨(L, bsy) :: (b5, ABlk.cells [AV.int .i64 0, .int .i64 0, .int .i64 0, .int .i64 0] true) :: (b3, ABlk.cells [sv] true) :: (b2, ABlk.cells [.int .i64 T, v] true) :: (b7, .cells [.int .i64 (S + (gF fs i).lo)] true) :: F, .cons _ (List.Sublist.refl _), rfl, _, .head, rfl, ?_⟩
    rw [eS']
  · rintro r G rfl
    exact ⟨_, .head, rfl, rfl, rfl⟩
theorem Net.turn {T : Int} {fs : List Fl} (h : Net T fs) : ∀ i, i < (fs.map turnF).length → (gF (fs.map turnF) i).f ≠ (gF (fs.map turnF) i).t := fun i hi => by
  rw [List.length_map] at hi
  rw [gF_turn hi]
  exact fun e => h.ne i hi e.symm
theorem f17_r1 {T S1 : Int} {fs : List Fl} {l : List Int} {v sv : AV} {b2 b3 b5 b7 : Nat} {B : FE} {ks : List (Nat × AV)} (hN : Net T fs) (hr : FRow F v (fs.map turnF)) (hs : RowI F sv l) (hll : l.length ≤ 9223372036854775807) (hb7 : lo ≤ b7) (hS : 0 ≤ S1 ∧ S1 ≤ 4000000) :
    Ws tblW lo none (af17.body.rangeAt 1) (upds B ((37, .fn (.func 70) [] [.ptr (some (b2, 0)), .ptr (some (b5, 0)), .ptr (some (b3, 0))]) :: (7, .ptr (some (b7, 0))) :: ks)) ((b5, ABlk.cells [AV.int .i64 0, .int .i64 0, .int .i64 0, .int .i64 0] true) :: (b3, ABlk.cells [sv] true) :: (b2, ABlk.cells [.int .i64 T, v] true) :: (b7, .cells [.int .i64 S1] true) :: F)
      fun r E' G => r = .normal ∧ E' = upds B ((37, .fn (.func 70) [] [.ptr (some (b2, 0)), .ptr (some (b5, 0)), .ptr (some (b3, 0))]) :: (7, .ptr (some (b7, 0))) :: ks) ∧ G = (b5, ABlk.cells [AV.int .i64 0, .int .i64 0, .int .i64 0, .int .i64 0] true) :: (b3, ABlk.cells [sv] true) :: (b2, ABlk.cells [.int .i64 T, v] true) :: (b7, .cells [.int .i64 (S1 - sumN (inHi fs l) fs.length)] true) :: F := by
  show Ws tblW lo none (.rangeF _ _ _ _) _ _ _
  refine Ws.rangeV (fv := .fn (.func 70) [] [.ptr (some (b2, 0)), .ptr (some (b5, 0)), .ptr (some (b3, 0))]) rfl rfl fun L rdy bsy hL hy => ?_
  have hyv := @hy
  clear hy
  have hn := hN.n
  have hlm : (fs.map turnF).length = fs.length := List.length_map ..
  have e0 : S1 - sumN (inHi fs l) 0 = S1 := Int.sub_zero _
  refine (f70_ok (T := T) (fs := fs.map turnF) (l := l) (v := v) (sv := sv) hN.turn (by omega) hll (fun i H => H = (L, rdy) :: (b5, ABlk.cells [AV.int .i64 0, .int .i64 0, .int .i64 0, .int .i64 0] true) :: (b3, ABlk.cells [sv] true) :: (b2, ABlk.cells [.int .i64 T, v] true) :: (b7, .cells [.int .i64 (S1 - sumN (inHi fs l) i)] true) :: F) ?_ ?_ ?_ (by rw [e0])).mono ?_
  · rintro i H rfl
    exact ⟨inF, inF, inF, hr.cons.cons.cons.cons.cons, hs.cons.cons.cons.cons.cons⟩
  · rintro i H hic rfl hc
    rw [hlm] at hic
    rw [gF_turn hic] at hc
    have e : inHi fs l i = 0 := by unfold inHi; rw [if_neg (by rw [hc]; simp)]
    simp only [sumN, e, Int.add_zero]
  · rintro i H hic rfl hc
    rw [hlm] at hic
    rw [gF_turn hic] at hc ⊢
    have e : inHi fs l i = (gF fs i).hi := by unfold inHi; rw [if_pos hc]
    have hb := sumN_bound (n := i) fun j hj => inHi_in hN l j (by omega)
    have hu := hN.u i hic
    have hth : (turnF (gF fs i)).hi = (gF fs i).hi := rfl
    generalize eS : sumN (inHi fs l) i = S at *
    have eS' : S1 - sumN (inHi fs l) (i + 1) = S1 - S - (gF fs i).hi := by simp only [sumN, e, eS]; omega
    refine hyv (List.mem_cons_self ..) hL rfl ?_
    clear hyv
    (repeat' (first | (first | refine Wo.nil ?_ | refine Wd.nil ?_ | ((first | refine Wo.cons ?_ | refine Wd.cons ?_); (try refine W1.go rfl rfl ?_); ((first | refine k1 ?_ | refine k2 ?_ | (refine isTo 7 ?_; refine W1.storeInt (l' := [.int .i64 (S1 - S - (gF fs i).hi)]) rfl rfl inF rfl inU inN hb7 ?_) | refine W1.auto ?_ | ((first | refine kA ?_ | refine kB ?_ | refine kC ?_ | refine kD ?_ | refine kE ?_ | refine kF ?_ | refine kG ?_); refine ⟨fun _ => ?_, fun _ => ?_⟩) | refine W1.alloc (fun _ _ => ?_) | refine W1.boxA rfl (fun _ _ => ?_) | refine kq (fun _ _ => ?_) | refine kp ?_ | (refine isIaddrs ?_; first | refine W1.iaddrI inI rfl rfl (by omega) (fun _ _ _ _ _ _ => ?_) | refine W1.iaddrR inR rfl rfl (by omega) (fun _ _ _ _ _ _ _ => ?_)) | (refine isBox ?_; refine W1.boxS inW (by rfl) (fun _ _ => ?_)) | (refine isBslice ?_; refine W1.bslice (fill_all inC rfl) (fun _ _ => ?_))) <;> (try refine ⟨fun _ => rfl, ?_⟩)))) | (first | refine Ws.seq ?_ | refine Ws.region ?_ | refine Ws.draw (fun bd hbd => ?_) | refine Ws.cond rfl ?_ | refine Ws.skip ?_ | refine Ws.scope ?_ | refine Ws.block ?_ | refine Ws.exit ?_ | refine Ws.ret ?_)))
    refine ⟨rfl, _, inU, Ws.shrink ?_⟩
    (repeat' (first | (first | refine Wo.nil ?_ | refine Wd.nil ?_ | ((first | refine Wo.cons ?_ | refine Wd.cons ?_); (try refine W1.go rfl rfl ?_); ((first | refine k1 ?_ | refine k2 ?_ | (refine isTo 7 ?_; refine W1.storeInt (l' := [.int .i64 (S1 - S - (gF fs i).hi)]) rfl rfl inF rfl inU inN hb7 ?_) | refine W1.auto ?_ | ((first | refine kA ?_ | refine kB ?_ | refine kC ?_ | refine kD ?_ | refine kE ?_ | refine kF ?_ | refine kG ?_); refine ⟨fun _ => ?_, fun _ => ?_⟩) | refine W1.alloc (fun _ _ => ?_) | refine W1.boxA rfl (fun _ _ => ?_) | refine kq (fun _ _ => ?_) | refine kp ?_ | (refine isIaddrs ?_; first | refine W1.iaddrI inI rfl rfl (by omega) (fun _ _ _ _ _ _ => ?_) | refine W1.iaddrR inR rfl rfl (by omega) (fun _ _ _ _ _ _ _ => ?_)) | (refine isBox ?_; refine W1.boxS inW (by rfl) (fun _ _ => ?_)) | (refine isBslice ?_; refine W1.bslice (fill_all inC rfl) (fun _ _ => ?_))) <;> (try refine ⟨fun _ => rfl, ?_⟩)))) | (first | refine Ws.seq ?_ | refine Ws.region ?_ | refine Ws.draw (fun bd hbd => ?_) | refine Ws.cond rfl ?_ | refine Ws.skip ?_ | refine Ws.scope ?_ | refine Ws.block ?_ | refine Ws.exit ?_ | refine Ws.ret ?_)))
    refine ⟨(L, bsy) :: (b5, ABlk.cells [AV.int .i64 0, .int .i64 0, .int .i64 0, .int .i64 0] true) :: (b3, ABlk.cells [sv] true) :: (b2, ABlk.cells [.int .i64 T, v] true) :: (b7, .cells [.int .i64 (S1 - S - (gF fs i).hi)] true) :: F, .cons _ (List.Sublist.refl _), rfl, _, .head, rfl, ?_⟩
    rw [eS']
  · rintro r G rfl
    rw [hlm]
    exact ⟨_, .head, rfl, rfl, rfl⟩
theorem f17_ok {T : Int} {fs : List Fl} {l : List Int} {v sv : AV} (hr : FRow F v fs) (hl : fs.length ≤ 9223372036854775807) (hs : RowI F sv l) (hll : l.length ≤ 9223372036854775807) : Pure tblW (fnv 17) [netV T v, sv] F (rv1 (shortR T fs l)) := by
  intro lo
  refine Fn.func (fn := af17) rfl rfl ?_
  by_cases h0 : chkN T fs = 0
  rotate_left
  · have e1 : shortR T fs l = (0, chkN T fs) := by unfold shortR; rw [if_pos h0]
    rw [e1]
    (repeat' (first | (first | refine Wo.nil ?_ | refine Wd.nil ?_ | ((first | refine Wo.cons ?_ | refine Wd.cons ?_); (try refine W1.go rfl rfl ?_); ((first | refine k1 ?_ | refine k2 ?_ | (refine isDst 2 ?_; refine W1.boxA rfl (fun b1 hb1 => ?_)) | (refine isDst 7 ?_; refine W1.alloc (fun b7 hb7 => ?_)) | (refine isDst 13 ?_; refine W1.pure rfl rfl (f19_ok hr.cons hl) ?_) | (refine isDst 22 ?_; refine W1.pure rfl rfl (f43_ok hs.cons hll) ?_; first | rw [h1] | skip) | refine W1.cO ?_ | refine W1.auto ?_ | ((first | refine kA ?_ | refine kB ?_ | refine kC ?_ | refine kD ?_ | refine kE ?_ | refine kF ?_ | refine kG ?_); refine ⟨fun _ => ?_, fun _ => ?_⟩) | refine W1.alloc (fun _ _ => ?_) | refine W1.boxA rfl (fun _ _ => ?_) | refine kq (fun _ _ => ?_) | refine kp ?_ | (refine isIaddrs ?_; first | refine W1.iaddrI inI rfl rfl (by omega) (fun _ _ _ _ _ _ => ?_) | refine W1.iaddrR inR rfl rfl (by omega) (fun _ _ _ _ _ _ _ => ?_)) | (refine isBox ?_; refine W1.boxS inW (by rfl) (fun _ _ => ?_)) | (refine isBslice ?_; refine W1.bslice (fill_all inC rfl) (fun _ _ => ?_))) <;> (try refine ⟨fun _ => rfl, ?_⟩)))) | (first | refine Ws.seq ?_ | refine Ws.region ?_ | refine Ws.draw (fun bd hbd => ?_) | refine Ws.cond rfl ?_ | refine Ws.skip ?_ | refine Ws.scope ?_ | refine Ws.block ?_ | refine Ws.exit ?_ | refine Ws.ret ?_)))
    (refine FnEnd.ret (F' := F) (vs := [_, _]) (by (first | refine ResF.tmp inW ?_ | refine ResF.cell rfl inF inP ?_); (first | refine ResF.tmp inW ?_ | refine ResF.cell rfl inF inP ?_); exact ResF.nil) inS ⟨?_, rfl⟩)
    rfl
  have hN := chkN_net.1 h0
  have hn := hN.n
  cases h1 : rise T l with
  | false =>
    have e1 : shortR T fs l = (0, 3) := by unfold shortR; rw [if_neg (by omega), if_pos h1]
    rw [e1]
    (repeat' (first | (first | refine Wo.nil ?_ | refine Wd.nil ?_ | ((first | refine Wo.cons ?_ | refine Wd.cons ?_); (try refine W1.go rfl rfl ?_); ((first | refine k1 ?_ | refine k2 ?_ | (refine isDst 2 ?_; refine W1.boxA rfl (fun b1 hb1 => ?_)) | (refine isDst 7 ?_; refine W1.alloc (fun b7 hb7 => ?_)) | (refine isDst 13 ?_; refine W1.pure rfl rfl (f19_ok hr.cons hl) ?_) | (refine isDst 22 ?_; refine W1.pure rfl rfl (f43_ok hs.cons hll) ?_; first | rw [h1] | skip) | refine W1.cO ?_ | refine W1.auto ?_ | ((first | refine kA ?_ | refine kB ?_ | refine kC ?_ | refine kD ?_ | refine kE ?_ | refine kF ?_ | refine kG ?_); refine ⟨fun _ => ?_, fun _ => ?_⟩) | refine W1.alloc (fun _ _ => ?_) | refine W1.boxA rfl (fun _ _ => ?_) | refine kq (fun _ _ => ?_) | refine kp ?_ | (refine isIaddrs ?_; first | refine W1.iaddrI inI rfl rfl (by omega) (fun _ _ _ _ _ _ => ?_) | refine W1.iaddrR inR rfl rfl (by omega) (fun _ _ _ _ _ _ _ => ?_)) | (refine isBox ?_; refine W1.boxS inW (by rfl) (fun _ _ => ?_)) | (refine isBslice ?_; refine W1.bslice (fill_all inC rfl) (fun _ _ => ?_))) <;> (try refine ⟨fun _ => rfl, ?_⟩)))) | (first | refine Ws.seq ?_ | refine Ws.region ?_ | refine Ws.draw (fun bd hbd => ?_) | refine Ws.cond rfl ?_ | refine Ws.skip ?_ | refine Ws.scope ?_ | refine Ws.block ?_ | refine Ws.exit ?_ | refine Ws.ret ?_)))
    (refine FnEnd.ret (F' := F) (vs := [_, _]) (by (first | refine ResF.tmp inW ?_ | refine ResF.cell rfl inF inP ?_); (first | refine ResF.tmp inW ?_ | refine ResF.cell rfl inF inP ?_); exact ResF.nil) inS ⟨?_, rfl⟩)
    rfl
  | true =>
    have e1 : shortR T fs l = if shB fs (hasT l) ≤ 0 then (0, 5) else (shB fs (hasT l), 0) := by unfold shortR; rw [if_neg (by omega), if_neg (by rw [h1]; simp)]
    rw [shB_split] at e1
    have hb1 := sumN_bound (n := fs.length) (outLo_in hN l)
    have hb2 := sumN_bound (n := fs.length) (inHi_in hN l)
    generalize eA : sumN (outLo fs l) fs.length = A at *
    generalize eC : sumN (inHi fs l) fs.length = C at *
    (repeat' (first | (first | refine Wo.nil ?_ | refine Wd.nil ?_ | ((first | refine Wo.cons ?_ | refine Wd.cons ?_); (try refine W1.go rfl rfl ?_); ((first | refine k1 ?_ | refine k2 ?_ | (refine isDst 2 ?_; refine W1.boxA rfl (fun b1 hb1 => ?_)) | (refine isDst 7 ?_; refine W1.alloc (fun b7 hb7 => ?_)) | (refine isDst 13 ?_; refine W1.pure rfl rfl (f19_ok hr.cons hl) ?_) | (refine isDst 22 ?_; refine W1.pure rfl rfl (f43_ok hs.cons hll) ?_; first | rw [h1] | skip) | (refine isDst 26 ?_; refine W1.callM rfl rfl ((f44_ok hs.cell).mono ?_); rintro _ _ ⟨b2c, b3c, b5c, ⟨hb2c, hb3c, hb5c⟩, rfl, rfl⟩) | refine W1.cO ?_ | refine W1.auto ?_ | ((first | refine kA ?_ | refine kB ?_ | refine kC ?_ | refine kD ?_ | refine kE ?_ | refine kF ?_ | refine kG ?_); refine ⟨fun _ => ?_, fun _ => ?_⟩) | refine W1.alloc (fun _ _ => ?_) | refine W1.boxA rfl (fun _ _ => ?_) | refine kq (fun _ _ => ?_) | refine kp ?_ | (refine isIaddrs ?_; first | refine W1.iaddrI inI rfl rfl (by omega) (fun _ _ _ _ _ _ => ?_) | refine W1.iaddrR inR rfl rfl (by omega) (fun _ _ _ _ _ _ _ => ?_)) | (refine isBox ?_; refine W1.boxS inW (by rfl) (fun _ _ => ?_)) | (refine isBslice ?_; refine W1.bslice (fill_all inC rfl) (fun _ _ => ?_))) <;> (try refine ⟨fun _ => rfl, ?_⟩)))) | (first | refine Ws.seq ?_ | refine Ws.region ?_ | refine Ws.draw (fun bd hbd => ?_) | refine Ws.cond rfl ?_ | refine Ws.skip ?_ | refine Ws.scope ?_ | refine Ws.block ?_ | refine Ws.exit ?_ | refine Ws.ret ?_)))
    refine Ws.fresh (l := (26, .fn (.func 70) [] [.ptr (some (b2c, 0)), .ptr (some (b5c, 0)), .ptr (some (b3c, 0))]) :: (7, .ptr (some (b7, 0))) :: [(1, sv), (2, .ptr (some (b1, 0)))]) ⟨rfl, rfl, rfl, rfl, trivial⟩ (fun B => ?_)
    refine (f17_r0 hN hr.cons hs.cons hll hb7).mono ?_
    rintro r E' G ⟨rfl, rfl, rfl⟩
    rw [eA]
    (repeat' (first | (first | refine Wo.nil ?_ | refine Wd.nil ?_ | ((first | refine Wo.cons ?_ | refine Wd.cons ?_); (try refine W1.go rfl rfl ?_); ((first | refine k1 ?_ | refine k2 ?_ | (refine isDst 35 ?_; refine W1.callM rfl rfl ((f45_ok hr.cons.cons.cons.cons.cons (by omega)).mono ?_); rintro _ _ ⟨v', Fo, ho, rfl, rfl⟩) | (refine isDst 37 ?_; refine W1.callM rfl rfl ((f44_ok hs.cell).mono ?_); rintro _ _ ⟨b2d, b3d, b5d, ⟨hb2d, hb3d, hb5d⟩, rfl, rfl⟩) | refine W1.auto ?_ | ((first | refine kA ?_ | refine kB ?_ | refine kC ?_ | refine kD ?_ | refine kE ?_ | refine kF ?_ | refine kG ?_); refine ⟨fun _ => ?_, fun _ => ?_⟩) | refine W1.alloc (fun _ _ => ?_) | refine W1.boxA rfl (fun _ _ => ?_) | refine kq (fun _ _ => ?_) | refine kp ?_ | (refine isIaddrs ?_; first | refine W1.iaddrI inI rfl rfl (by omega) (fun _ _ _ _ _ _ => ?_) | refine W1.iaddrR inR rfl rfl (by omega) (fun _ _ _ _ _ _ _ => ?_)) | (refine isBox ?_; refine W1.boxS inW (by rfl) (fun _ _ => ?_)) | (refine isBslice ?_; refine W1.bslice (fill_all inC rfl) (fun _ _ => ?_))) <;> (try refine ⟨fun _ => rfl, ?_⟩)))) | (first | refine Ws.seq ?_ | refine Ws.region ?_ | refine Ws.draw (fun bd hbd => ?_) | refine Ws.cond rfl ?_ | refine Ws.skip ?_ | refine Ws.scope ?_ | refine Ws.block ?_ | refine Ws.exit ?_ | refine Ws.ret ?_)))
    refine Ws.fresh (l := (37, .fn (.func 70) [] [.ptr (some (b2d, 0)), .ptr (some (b5d, 0)), .ptr (some (b3d, 0))]) :: (7, .ptr (some (b7, 0))) :: [(1, sv), (2, .ptr (some (b1, 0)))]) ⟨rfl, rfl, rfl, rfl, trivial⟩ (fun B2 => ?_)
    refine Ws.weak (F' := (b5d, .cells [AV.int .i64 0, .int .i64 0, .int .i64 0, .int .i64 0] true) :: (b3d, .cells [sv] true) :: (b2d, .cells [.int .i64 T, v'] true) :: (Fo ++ ((b7, .cells [.int .i64 A] true) :: (b1, .cells [.int .i64 T, v] true) :: F))) ?_ ?_
    · exact .cons_cons _ (.cons_cons _ (.cons_cons _ (List.Sublist.append (List.Sublist.refl _) (.cons _ (.cons _ (.cons _ (List.Sublist.refl _)))))))
    refine Ws.perm (((List.perm_middle.symm.cons _).cons _).cons _) ?_
    refine (f17_r1 hN (ho.rowZ flc_len (List.subset_append_left _ _)) hs.cons.app hll hb7 (by omega)).mono ?_
    rintro r E' G ⟨rfl, rfl, rfl⟩
    rw [eC]
    (repeat' (first | (first | refine Wo.nil ?_ | refine Wd.nil ?_ | ((first | refine Wo.cons ?_ | refine Wd.cons ?_); (try refine W1.go rfl rfl ?_); ((first | refine k1 ?_ | refine k2 ?_ | refine W1.auto ?_ | ((first | refine kA ?_ | refine kB ?_ | refine kC ?_ | refine kD ?_ | refine kE ?_ | refine kF ?_ | refine kG ?_); refine ⟨fun _ => ?_, fun _ => ?_⟩) | refine W1.alloc (fun _ _ => ?_) | refine W1.boxA rfl (fun _ _ => ?_) | refine kq (fun _ _ => ?_) | refine kp ?_ | (refine isIaddrs ?_; first | refine W1.iaddrI inI rfl rfl (by omega) (fun _ _ _ _ _ _ => ?_) | refine W1.iaddrR inR rfl rfl (by omega) (fun _ _ _ _ _ _ _ => ?_)) | (refine isBox ?_; refine W1.boxS inW (by rfl) (fun _ _ => ?_)) | (refine isBslice ?_; refine W1.bslice (fill_all inC rfl) (fun _ _ => ?_))) <;> (try refine ⟨fun _ => rfl, ?_⟩)))) | (first | refine Ws.seq ?_ | refine Ws.region ?_ | refine Ws.draw (fun bd hbd => ?_) | refine Ws.cond rfl ?_ | refine Ws.skip ?_ | refine Ws.scope ?_ | refine Ws.block ?_ | refine Ws.exit ?_ | refine Ws.ret ?_)))
    · rw [e1, if_pos (by omega)]
      (refine FnEnd.ret (F' := F) (vs := [_, _]) (by (first | refine ResF.tmp inW ?_ | refine ResF.cell rfl inF inP ?_); (first | refine ResF.tmp inW ?_ | refine ResF.cell rfl inF inP ?_); exact ResF.nil) inS ⟨?_, rfl⟩)
      rfl
    · rw [e1, if_neg (by omega)]
      (refine FnEnd.ret (F' := F) (vs := [_, _]) (by (first | refine ResF.tmp inW ?_ | refine ResF.cell rfl inF inP ?_); (first | refine ResF.tmp inW ?_ | refine ResF.cell rfl inF inP ?_); exact ResF.nil) inS ⟨?_, rfl⟩)
      rfl
theorem f18_ok {T : Int} {fs : List Fl} {l : List Int} {v sv : AV} (hr : FRow F v fs) (hl : fs.length ≤ 9223372036854775807) (hs : RowI F sv l) (hll : l.length ≤ 9223372036854775807) : Pure tblW (fnv 18) [netV T v, sv] F (rv1 (shortR T fs l)) := by
  intro lo
  refine Fn.func (fn := af18) rfl rfl ?_
  by_cases h0 : chkN T fs = 0
  rotate_left
  · have e1 : shortR T fs l = (0, chkN T fs) := by unfold shortR; rw [if_pos h0]
    rw [e1]
    (repeat' (first | (first | refine Wo.nil ?_ | refine Wd.nil ?_ | ((first | refine Wo.cons ?_ | refine Wd.cons ?_); (try refine W1.go rfl rfl ?_); ((first | refine k1 ?_ | refine k2 ?_ | (refine isDst 2 ?_; refine W1.boxA rfl (fun b1 hb1 => ?_)) | (refine isDst 10 ?_; refine W1.pure rfl rfl (f20_ok hr.cons hl) ?_) | (refine isDst 13 ?_; refine W1.pure rfl rfl (f20_ok hr.cons hl) ?_) | (refine isDst 17 ?_; refine W1.pure rfl rfl (f46_ok hs.cons hll) ?_; first | rw [h1] | skip) | refine W1.cO ?_ | refine W1.auto ?_ | ((first | refine kA ?_ | refine kB ?_ | refine kC ?_ | refine kD ?_ | refine kE ?_ | refine kF ?_ | refine kG ?_); refine ⟨fun _ => ?_, fun _ => ?_⟩) | refine W1.alloc (fun _ _ => ?_) | refine W1.boxA rfl (fun _ _ => ?_) | refine kq (fun _ _ => ?_) | refine kp ?_ | (refine isIaddrs ?_; first | refine W1.iaddrI inI rfl rfl (by omega) (fun _ _ _ _ _ _ => ?_) | refine W1.iaddrR inR rfl rfl (by omega) (fun _ _ _ _ _ _ _ => ?_)) | (refine isBox ?_; refine W1.boxS inW (by rfl) (fun _ _ => ?_)) | (refine isBslice ?_; refine W1.bslice (fill_all inC rfl) (fun _ _ => ?_))) <;> (try refine ⟨fun _ => rfl, ?_⟩)))) | (first | refine Ws.seq ?_ | refine Ws.region ?_ | refine Ws.draw (fun bd hbd => ?_) | refine Ws.cond rfl ?_ | refine Ws.skip ?_ | refine Ws.scope ?_ | refine Ws.block ?_ | refine Ws.exit ?_ | refine Ws.ret ?_)))
    (refine FnEnd.ret (F' := F) (vs := [_, _]) (by (first | refine ResF.tmp inW ?_ | refine ResF.cell rfl inF inP ?_); (first | refine ResF.tmp inW ?_ | refine ResF.cell rfl inF inP ?_); exact ResF.nil) inS ⟨?_, rfl⟩)
    rfl
  have hN := chkN_net.1 h0
  have hn := hN.n
  cases h1 : rise T l with
  | false =>
    have e1 : shortR T fs l = (0, 3) := by unfold shortR; rw [if_neg (by omega), if_pos h1]
    rw [e1]
    (repeat' (first | (first | refine Wo.nil ?_ | refine Wd.nil ?_ | ((first | refine Wo.cons ?_ | refine Wd.cons ?_); (try refine W1.go rfl rfl ?_); ((first | refine k1 ?_ | refine k2 ?_ | (refine isDst 2 ?_; refine W1.boxA rfl (fun b1 hb1 => ?_)) | (refine isDst 10 ?_; refine W1.pure rfl rfl (f20_ok hr.cons hl) ?_) | (refine isDst 13 ?_; refine W1.pure rfl rfl (f20_ok hr.cons hl) ?_) | (refine isDst 17 ?_; refine W1.pure rfl rfl (f46_ok hs.cons hll) ?_; first | rw [h1] | skip) | refine W1.cO ?_ | refine W1.auto ?_ | ((first | refine kA ?_ | refine kB ?_ | refine kC ?_ | refine kD ?_ | refine kE ?_ | refine kF ?_ | refine kG ?_); refine ⟨fun _ => ?_, fun _ => ?_⟩) | refine W1.alloc (fun _ _ => ?_) | refine W1.boxA rfl (fun _ _ => ?_) | refine kq (fun _ _ => ?_) | refine kp ?_ | (refine isIaddrs ?_; first | refine W1.iaddrI inI rfl rfl (by omega) (fun _ _ _ _ _ _ => ?_) | refine W1.iaddrR inR rfl rfl (by omega) (fun _ _ _ _ _ _ _ => ?_)) | (refine isBox ?_; refine W1.boxS inW (by rfl) (fun _ _ => ?_)) | (refine isBslice ?_; refine W1.bslice (fill_all inC rfl) (fun _ _ => ?_))) <;> (try refine ⟨fun _ => rfl, ?_⟩)))) | (first | refine Ws.seq ?_ | refine Ws.region ?_ | refine Ws.draw (fun bd hbd => ?_) | refine Ws.cond rfl ?_ | refine Ws.skip ?_ | refine Ws.scope ?_ | refine Ws.block ?_ | refine Ws.exit ?_ | refine Ws.ret ?_)))
    (refine FnEnd.ret (F' := F) (vs := [_, _]) (by (first | refine ResF.tmp inW ?_ | refine ResF.cell rfl inF inP ?_); (first | refine ResF.tmp inW ?_ | refine ResF.cell rfl inF inP ?_); exact ResF.nil) inS ⟨?_, rfl⟩)
    rfl
  | true =>
    have e1 : shortR T fs l = if shB fs (hasT l) ≤ 0 then (0, 5) else (shB fs (hasT l), 0) := by unfold shortR; rw [if_neg (by omega), if_neg (by rw [h1]; simp)]
    (repeat' (first | (first | refine Wo.nil ?_ | refine Wd.nil ?_ | ((first | refine Wo.cons ?_ | refine Wd.cons ?_); (try refine W1.go rfl rfl ?_); ((first | refine k1 ?_ | refine k2 ?_ | (refine isDst 2 ?_; refine W1.boxA rfl (fun b1 hb1 => ?_)) | (refine isDst 10 ?_; refine W1.pure rfl rfl (f20_ok hr.cons hl) ?_) | (refine isDst 13 ?_; refine W1.pure rfl rfl (f20_ok hr.cons hl) ?_) | (refine isDst 17 ?_; refine W1.pure rfl rfl (f46_ok hs.cons hll) ?_; first | rw [h1] | skip) | refine W1.cO ?_ | refine W1.auto ?_ | ((first | refine kA ?_ | refine kB ?_ | refine kC ?_ | refine kD ?_ | refine kE ?_ | refine kF ?_ | refine kG ?_); refine ⟨fun _ => ?_, fun _ => ?_⟩) | refine W1.alloc (fun _ _ => ?_) | refine W1.boxA rfl (fun _ _ => ?_) | refine kq (fun _ _ => ?_) | refine kp ?_ | (refine isIaddrs ?_; first | refine W1.iaddrI inI rfl rfl (by omega) (fun _ _ _ _ _ _ => ?_) | refine W1.iaddrR inR rfl rfl (by omega) (fun _ _ _ _ _ _ _ => ?_)) | (refine isBox ?_; refine W1.boxS inW (by rfl) (fun _ _ => ?_)) | (refine isBslice ?_; refine W1.bslice (fill_all inC rfl) (fun _ _ => ?_))) <;> (try refine ⟨fun _ => rfl, ?_⟩)))) | (first | refine Ws.seq ?_ | refine Ws.region ?_ | refine Ws.draw (fun bd hbd => ?_) | refine Ws.cond rfl ?_ | refine Ws.skip ?_ | refine Ws.scope ?_ | refine Ws.block ?_ | refine Ws.exit ?_ | refine Ws.ret ?_)))
    have hr' : FRow ((b1, ABlk.cells [.int .i64 T, v] true) :: F) v fs := hr.cons
    have hs' : RowI ((b1, ABlk.cells [.int .i64 T, v] true) :: F) sv l := hs.cons
    have hbd : ∀ n, n ≤ fs.length → -((n : Int) * 100000) ≤ sumN (shI fs (hasT l)) n ∧ sumN (shI fs (hasT l)) n ≤ (n : Int) * 100000 := by
      intro n
      induction n with
      | zero => intro _; exact ⟨by simp [sumN], by simp [sumN]⟩
      | succ n ih =>
        intro hnn
        have := ih (by omega)
        have hu := hN.u n (by omega)
        have e : ((n + 1 : Nat) : Int) = (n : Int) + 1 := by omega
        simp only [sumN]
        rw [e]
        generalize sumN (shI fs (hasT l)) n = S at *
        unfold shI
        cases hasT l (gF fs n).f <;> cases hasT l (gF fs n).t <;> simp only [if_true, if_false, and_self, and_true, true_and, and_false, false_and, Bool.false_eq_true, Bool.true_eq_false] <;> omega
    refine Ws.fresh (l := (6, .int .i64 0) :: (7, .int .i64 0) :: [(1, sv), (2, .ptr (some (b1, 0)))]) ⟨rfl, rfl, rfl, rfl, trivial⟩ (fun B => ?_)
    refine Ws.loopG (X := Nat) (fun i => (6, .int .i64 (sumN (shI fs (hasT l)) i)) :: (7, .int .i64 (i : Nat)) :: [(1, sv), (2, .ptr (some (b1, 0)))]) (fun _ => (b1, ABlk.cells [.int .i64 T, v] true) :: F) (fun i => i ≤ fs.length) (fun i => fs.length - i) 0 ⟨rfl, rfl, rfl, rfl, trivial⟩ (List.Sublist.refl _) (Nat.zero_le _) ?_
    rintro i B2 hi
    by_cases hic : i < fs.length
    · have hb := hbd i hi
      have hu := hN.u i hic
      have eS : sumN (shI fs (hasT l)) (i + 1) = sumN (shI fs (hasT l)) i + shI fs (hasT l) i := rfl
      have eI : shI fs (hasT l) i = (if hasT l (gF fs i).f = true ∧ hasT l (gF fs i).t = false then (gF fs i).lo else 0) - (if hasT l (gF fs i).f = false ∧ hasT l (gF fs i).t = true then (gF fs i).hi else 0) := rfl
      generalize sumN (shI fs (hasT l)) i = S at *
      cases ef : hasT l (gF fs i).f <;> cases et : hasT l (gF fs i).t <;> rw [ef, et] at eI <;> simp only [if_true, if_false, and_self, and_true, true_and, and_false, false_and, Bool.false_eq_true, Bool.true_eq_false] at eI
      all_goals
        (repeat' (first | (first | refine Wo.nil ?_ | refine Wd.nil ?_ | ((first | refine Wo.cons ?_ | refine Wd.cons ?_); (try refine W1.go rfl rfl ?_); ((first | refine k1 ?_ | refine k2 ?_ | (refine isDst 8 ?_; refine W1.alloc (fun b8 hb8 => ?_)) | (refine isDst 22 ?_; refine W1.lenZ hr' rfl ?_) | (refine isDst 23 ?_; refine W1.cO ?_) | (refine isDst 29 ?_; refine W1.iaddrF i hr' rfl rfl rfl hic (fun b o la own hm h0 h1 h2 h3 h4 h5 => ?_)) | (refine isDst 30 ?_; refine W1.load rfl hm h4 ?_) | (refine isDst 34 ?_; refine W1.pure rfl rfl (f47_ok hs'.cons hll) ?_; rw [ef]) | (refine isDst 39 ?_; refine W1.pure rfl rfl (f47_ok hs'.cons hll) ?_; rw [et]) | (refine isDst 50 ?_; refine W1.pure rfl rfl (f47_ok hs'.cons hll) ?_; rw [ef]) | (refine isDst 56 ?_; refine W1.pure rfl rfl (f47_ok hs'.cons hll) ?_; rw [et]) | refine W1.auto ?_ | ((first | refine kA ?_ | refine kB ?_ | refine kC ?_ | refine kD ?_ | refine kE ?_ | refine kF ?_ | refine kG ?_); refine ⟨fun _ => ?_, fun _ => ?_⟩) | refine W1.alloc (fun _ _ => ?_) | refine W1.boxA rfl (fun _ _ => ?_) | refine kq (fun _ _ => ?_) | refine kp ?_ | (refine isIaddrs ?_; first | refine W1.iaddrI inI rfl rfl (by omega) (fun _ _ _ _ _ _ => ?_) | refine W1.iaddrR inR rfl rfl (by omega) (fun _ _ _ _ _ _ _ => ?_)) | (refine isBox ?_; refine W1.boxS inW (by rfl) (fun _ _ => ?_)) | (refine isBslice ?_; refine W1.bslice (fill_all inC rfl) (fun _ _ => ?_))) <;> (try refine ⟨fun _ => rfl, ?_⟩)))) | (first | refine Ws.seq ?_ | refine Ws.region ?_ | refine Ws.draw (fun bd hbd => ?_) | refine Ws.cond rfl ?_ | refine Ws.skip ?_ | refine Ws.scope ?_ | refine Ws.block ?_ | refine Ws.exit ?_ | refine Ws.ret ?_)))
        exact ⟨i + 1, ⟨by rw [eS, eI]; first | rfl | (show AV.int .i64 _ = AV.int .i64 _; congr 1; omega), rfl, rfl, rfl, trivial⟩, inS, hic, by show _ - (i + 1) < _ - i; omega⟩
    · obtain rfl : i = fs.length := by omega
      have hb := hbd fs.length (Nat.le_refl _)
      have e2 : shB fs (hasT l) = sumN (shI fs (hasT l)) fs.length := rfl
      rw [e2] at e1
      generalize sumN (shI fs (hasT l)) fs.length = S at *
      (repeat' (first | (first | refine Wo.nil ?_ | refine Wd.nil ?_ | ((first | refine Wo.cons ?_ | refine Wd.cons ?_); (try refine W1.go rfl rfl ?_); ((first | refine k1 ?_ | refine k2 ?_ | (refine isDst 8 ?_; refine W1.alloc (fun b8 hb8 => ?_)) | (refine isDst 22 ?_; refine W1.lenZ hr' rfl ?_) | (refine isDst 23 ?_; refine W1.cO ?_) | (refine isDst 29 ?_; refine W1.iaddrF i hr' rfl rfl rfl hic (fun b o la own hm h0 h1 h2 h3 h4 h5 => ?_)) | (refine isDst 30 ?_; refine W1.load rfl hm h4 ?_) | refine W1.auto ?_ | ((first | refine kA ?_ | refine kB ?_ | refine kC ?_ | refine kD ?_ | refine kE ?_ | refine kF ?_ | refine kG ?_); refine ⟨fun _ => ?_, fun _ => ?_⟩) | refine W1.alloc (fun _ _ => ?_) | refine W1.boxA rfl (fun _ _ => ?_) | refine kq (fun _ _ => ?_) | refine kp ?_ | (refine isIaddrs ?_; first | refine W1.iaddrI inI rfl rfl (by omega) (fun _ _ _ _ _ _ => ?_) | refine W1.iaddrR inR rfl rfl (by omega) (fun _ _ _ _ _ _ _ => ?_)) | (refine isBox ?_; refine W1.boxS inW (by rfl) (fun _ _ => ?_)) | (refine isBslice ?_; refine W1.bslice (fill_all inC rfl) (fun _ _ => ?_))) <;> (try refine ⟨fun _ => rfl, ?_⟩)))) | (first | refine Ws.seq ?_ | refine Ws.region ?_ | refine Ws.draw (fun bd hbd => ?_) | refine Ws.cond rfl ?_ | refine Ws.skip ?_ | refine Ws.scope ?_ | refine Ws.block ?_ | refine Ws.exit ?_ | refine Ws.ret ?_)))
      · rw [e1, if_pos (by omega)]
        (refine FnEnd.ret (F' := F) (vs := [_, _]) (by (first | refine ResF.tmp inW ?_ | refine ResF.cell rfl inF inP ?_); (first | refine ResF.tmp inW ?_ | refine ResF.cell rfl inF inP ?_); exact ResF.nil) inS ⟨?_, rfl⟩)
        rfl
      · rw [e1, if_neg (by omega)]
        (refine FnEnd.ret (F' := F) (vs := [_, _]) (by (first | refine ResF.tmp inW ?_ | refine ResF.cell rfl inF inP ?_); (first | refine ResF.tmp inW ?_ | refine ResF.cell rfl inF inP ?_); exact ResF.nil) inS ⟨?_, rfl⟩)
        rfl
end Go.Ax
