/-
  Contracts: litres over, which amounts are a truth; twice.
-/
import Derived.Test.YtjcehnfhkgbpiaaXNI
namespace Go.Ax
set_option maxHeartbeats 1000000
set_option maxRecDepth 6000
set_option linter.unusedSimpArgs false
set_option linter.unusedVariables false
attribute [-simp] List.getD_eq_getElem?_getD
variable {lo : Nat} {F : Hp}
def ovK (K : Nat) (fs : List Fl) (x : List Int) (n : Nat) : List Int := (List.range K).map fun t => ov fs x n (t : Nat)
theorem ovK_len {K : Nat} {fs : List Fl} {x : List Int} {n : Nat} : (ovK K fs x n).length = K := by simp [ovK]
theorem ovK_get {K : Nat} {fs : List Fl} {x : List Int} {n t : Nat} (h : t < K) : (ovK K fs x n).getD t 0 = ov fs x n (t : Nat) := by
  simp [ovK, List.getD, List.getElem?_eq_getElem, h]
theorem ovK_zero {K : Nat} {fs : List Fl} {x : List Int} : ovK K fs x 0 = List.replicate K 0 := by
  refine eq_of_getD (by rw [ovK_len, List.length_replicate]) fun j hj => ?_
  rw [ovK_len] at hj
  rw [ovK_get hj]
  simp [ov, sumN, List.getD, List.getElem?_replicate, hj]
theorem ovK_step {K : Nat} {fs : List Fl} {x : List Int} {n a b : Nat} (ha : (gF fs n).t = (a : Nat)) (hb : (gF fs n).f = (b : Nat)) (hab : a ≠ b) (ha' : a < K) (hb' : b < K) :
    ((ovK K fs x n).set a (ov fs x n (a : Nat) + x.getD n 0)).set b (ov fs x n (b : Nat) - x.getD n 0) = ovK K fs x (n + 1) := by
  refine eq_of_getD (by simp [ovK_len]) fun j hj => ?_
  rw [List.length_set, List.length_set, ovK_len] at hj
  rw [ovK_get hj, getD_setI (by rw [List.length_set, ovK_len]; exact hb'), getD_setI (by rw [ovK_len]; exact ha'), ovK_get hj]
  show _ = ov fs x n (j : Nat) + br fs x (j : Nat) n
  unfold br
  rw [ha, hb]
  by_cases e1 : j = b
  · subst e1; rw [if_pos rfl, if_neg (by omega), if_pos rfl]; omega
  · rw [if_neg e1]
    by_cases e2 : j = a
    · subst e2; rw [if_pos rfl, if_pos rfl, if_neg (by omega)]; omega
    · rw [if_neg e2, if_neg (by omega), if_neg (by omega)]; omega
theorem ov_in {fs : List Fl} {x : List Int} {t : Int} : ∀ {n : Nat}, (∀ i, i < n → 0 ≤ x.getD i 0 ∧ x.getD i 0 ≤ 100000) → -((n : Int) * 100000) ≤ ov fs x n t ∧ ov fs x n t ≤ (n : Int) * 100000
  | 0, _ => by simp [ov, sumN]
  | n + 1, hr => by
    have ih := ov_in (t := t) (n := n) (fs := fs) fun i hi => hr i (by omega)
    have h1 := hr n (by omega)
    have e : ov fs x (n + 1) t = ov fs x n t + br fs x t n := rfl
    rw [e]
    unfold br
    have : ((n + 1 : Nat) : Int) = (n : Int) + 1 := by omega
    rw [this]
    split <;> split <;> omega
theorem ov_out {T : Int} {fs : List Fl} {x : List Int} {t : Int} (hN : Net T fs) (ht : T < t) : ∀ {n : Nat}, n ≤ fs.length → ov fs x n t = 0
  | 0, _ => rfl
  | n + 1, hn => by
    have ih := ov_out hN (x := x) ht (n := n) (by omega)
    have hu := hN.u n (by omega)
    have e : ov fs x (n + 1) t = ov fs x n t + br fs x t n := rfl
    rw [e, ih]
    unfold br
    rw [if_neg (by omega), if_neg (by omega)]; rfl
theorem leafs_ints : ∀ (xs ys : List Int), xs.length = ys.length → leafsEq (List.replicate xs.length .int) (ints xs) (ints ys) = some (decide (xs = ys))
  | [], [], _ => rfl
  | a :: xs, b :: ys, h => by
    have ih := leafs_ints xs ys (by simpa using h)
    simp only [List.length_cons, List.replicate_succ, ints, List.map_cons, leafsEq, leafEq, if_true]
    rw [show leafsEq (List.replicate xs.length .int) (xs.map (.int .i64)) (ys.map (.int .i64)) = some (decide (xs = ys)) from ih]
    simp only [Option.some.injEq]
    rw [Bool.eq_iff_iff]
    simp
  | [], _ :: _, h => by cases h
  | _ :: _, [], h => by cases h
theorem rep0 (n j : Nat) : (List.replicate n (0 : Int)).getD j 0 = 0 := by
  by_cases h : j < n
  · simp [List.getD, List.getElem?_replicate, h]
  · simp [List.getD, List.getElem?_replicate, h]
def badT (T : Int) (fs : List Fl) (x : List Int) : Bool := (List.range (T.toNat + 1)).any fun t => decide (ov fs x fs.length (t : Nat) ≠ 0)
theorem badT_13 {T : Int} {fs : List Fl} {x : List Int} (hN : Net T fs) : decide (ovK 13 fs x fs.length = List.replicate 13 0) = !badT T fs x := by
  have hT := hN.t
  rw [Bool.eq_iff_iff, decide_eq_true_eq, Bool.not_eq_true']
  constructor
  · intro h
    refine anyR_no fun t ht => decide_eq_false ?_
    have := congrArg (fun l => l.getD t 0) h
    simp only [ovK_get (show t < 13 by omega)] at this
    simp only [ne_eq, Decidable.not_not]
    rw [this, rep0]
  · intro h
    refine eq_of_getD (by rw [ovK_len, List.length_replicate]) fun j hj => ?_
    rw [ovK_len] at hj
    rw [ovK_get hj]
    rw [rep0]
    by_cases hjT : T < (j : Nat)
    · exact ov_out hN hjT (Nat.le_refl _)
    · refine Decidable.byContradiction fun hne => ?_
      have : badT T fs x = true := anyR.2 ⟨j, by omega, decide_eq_true hne⟩
      rw [h] at this; cases this
theorem f21_ok {T : Int} {fs : List Fl} {x : List Int} {v xv : AV} (hr : FRow F v fs) (hl : fs.length ≤ 9223372036854775807) (hx : RowI F xv x) (hxl : x.length ≤ 9223372036854775807) : Pure tblW (fnv 21) [netV T v, xv] F (.int .i64 (chkT T fs x)) := by
  intro lo
  refine Fn.func (fn := af21) rfl rfl ?_
  by_cases h0 : chkN T fs = 0
  rotate_left
  · have e1 : chkT T fs x = chkN T fs := by unfold chkT; rw [if_pos h0]
    rw [e1]
    (repeat' (first | (first | refine Wo.nil ?_ | refine Wd.nil ?_ | ((first | refine Wo.cons ?_ | refine Wd.cons ?_); (try refine W1.go rfl rfl ?_); ((first | refine k1 ?_ | refine k2 ?_ | (refine isDst 2 ?_; refine W1.boxA rfl (fun b2 hb2 => ?_)) | (refine isDst 6 ?_; refine W1.alloc (fun b6 hb6 => ?_)) | (refine isDst 8 ?_; refine W1.alloc (fun b8 hb8 => ?_)) | (refine isDst 10 ?_; refine W1.pure rfl rfl (f19_ok hr.cons hl) ?_) | (refine isDst 15 ?_; refine W1.lenI hx.cons rfl ?_) | (refine isDst 18 ?_; refine W1.lenZ hr.cons rfl ?_) | (refine isDst 22 ?_; refine W1.lenZ hr.cons.cons rfl ?_) | refine W1.cO ?_ | refine W1.auto ?_ | ((first | refine kA ?_ | refine kB ?_ | refine kC ?_ | refine kD ?_ | refine kE ?_ | refine kF ?_ | refine kG ?_); refine ⟨fun _ => ?_, fun _ => ?_⟩) | refine W1.alloc (fun _ _ => ?_) | refine W1.boxA rfl (fun _ _ => ?_) | refine kq (fun _ _ => ?_) | refine kp ?_ | (refine isIaddrs ?_; first | refine W1.iaddrI inI rfl rfl (by omega) (fun _ _ _ _ _ _ => ?_) | refine W1.iaddrR inR rfl rfl (by omega) (fun _ _ _ _ _ _ _ => ?_)) | (refine isBox ?_; refine W1.boxS inW (by rfl) (fun _ _ => ?_)) | (refine isBslice ?_; refine W1.bslice (fill_all inC rfl) (fun _ _ => ?_))) <;> (try refine ⟨fun _ => rfl, ?_⟩)))) | (first | refine Ws.seq ?_ | refine Ws.region ?_ | refine Ws.draw (fun bd hbd => ?_) | refine Ws.cond rfl ?_ | refine Ws.skip ?_ | refine Ws.scope ?_ | refine Ws.block ?_ | refine Ws.exit ?_ | refine Ws.ret ?_)))
    (refine FnEnd.ret (F' := F) (vs := [_]) (by (first | refine ResF.tmp inW ?_ | refine ResF.cell rfl inF inP ?_); exact ResF.nil) inS ⟨?_, rfl⟩)
    rfl
  have hN := chkN_net.1 h0
  have hn := hN.n
  have hT := hN.t
  by_cases h1 : x.length = fs.length
  rotate_left
  · have e1 : chkT T fs x = 15 := by unfold chkT; rw [if_neg (by omega), if_pos h1]
    rw [e1]
    (repeat' (first | (first | refine Wo.nil ?_ | refine Wd.nil ?_ | ((first | refine Wo.cons ?_ | refine Wd.cons ?_); (try refine W1.go rfl rfl ?_); ((first | refine k1 ?_ | refine k2 ?_ | (refine isDst 2 ?_; refine W1.boxA rfl (fun b2 hb2 => ?_)) | (refine isDst 6 ?_; refine W1.alloc (fun b6 hb6 => ?_)) | (refine isDst 8 ?_; refine W1.alloc (fun b8 hb8 => ?_)) | (refine isDst 10 ?_; refine W1.pure rfl rfl (f19_ok hr.cons hl) ?_) | (refine isDst 15 ?_; refine W1.lenI hx.cons rfl ?_) | (refine isDst 18 ?_; refine W1.lenZ hr.cons rfl ?_) | (refine isDst 22 ?_; refine W1.lenZ hr.cons.cons rfl ?_) | refine W1.cO ?_ | refine W1.auto ?_ | ((first | refine kA ?_ | refine kB ?_ | refine kC ?_ | refine kD ?_ | refine kE ?_ | refine kF ?_ | refine kG ?_); refine ⟨fun _ => ?_, fun _ => ?_⟩) | refine W1.alloc (fun _ _ => ?_) | refine W1.boxA rfl (fun _ _ => ?_) | refine kq (fun _ _ => ?_) | refine kp ?_ | (refine isIaddrs ?_; first | refine W1.iaddrI inI rfl rfl (by omega) (fun _ _ _ _ _ _ => ?_) | refine W1.iaddrR inR rfl rfl (by omega) (fun _ _ _ _ _ _ _ => ?_)) | (refine isBox ?_; refine W1.boxS inW (by rfl) (fun _ _ => ?_)) | (refine isBslice ?_; refine W1.bslice (fill_all inC rfl) (fun _ _ => ?_))) <;> (try refine ⟨fun _ => rfl, ?_⟩)))) | (first | refine Ws.seq ?_ | refine Ws.region ?_ | refine Ws.draw (fun bd hbd => ?_) | refine Ws.cond rfl ?_ | refine Ws.skip ?_ | refine Ws.scope ?_ | refine Ws.block ?_ | refine Ws.exit ?_ | refine Ws.ret ?_)))
    (refine FnEnd.ret (F' := F) (vs := [_]) (by (first | refine ResF.tmp inW ?_ | refine ResF.cell rfl inF inP ?_); exact ResF.nil) inS ⟨?_, rfl⟩)
    rfl
  have e1 : chkT T fs x = if (List.range fs.length).any (outI fs x) = true then 3 else if badT T fs x = true then 14 else 0 := by unfold chkT badT; rw [if_neg (by omega), if_neg (by omega)]
  (repeat' (first | (first | refine Wo.nil ?_ | refine Wd.nil ?_ | ((first | refine Wo.cons ?_ | refine Wd.cons ?_); (try refine W1.go rfl rfl ?_); ((first | refine k1 ?_ | refine k2 ?_ | (refine isDst 2 ?_; refine W1.boxA rfl (fun b2 hb2 => ?_)) | (refine isDst 6 ?_; refine W1.alloc (fun b6 hb6 => ?_)) | (refine isDst 8 ?_; refine W1.alloc (fun b8 hb8 => ?_)) | (refine isDst 10 ?_; refine W1.pure rfl rfl (f19_ok hr.cons hl) ?_) | (refine isDst 15 ?_; refine W1.lenI hx.cons rfl ?_) | (refine isDst 18 ?_; refine W1.lenZ hr.cons rfl ?_) | (refine isDst 22 ?_; refine W1.lenZ hr.cons.cons rfl ?_) | refine W1.cO ?_ | refine W1.auto ?_ | ((first | refine kA ?_ | refine kB ?_ | refine kC ?_ | refine kD ?_ | refine kE ?_ | refine kF ?_ | refine kG ?_); refine ⟨fun _ => ?_, fun _ => ?_⟩) | refine W1.alloc (fun _ _ => ?_) | refine W1.boxA rfl (fun _ _ => ?_) | refine kq (fun _ _ => ?_) | refine kp ?_ | (refine isIaddrs ?_; first | refine W1.iaddrI inI rfl rfl (by omega) (fun _ _ _ _ _ _ => ?_) | refine W1.iaddrR inR rfl rfl (by omega) (fun _ _ _ _ _ _ _ => ?_)) | (refine isBox ?_; refine W1.boxS inW (by rfl) (fun _ _ => ?_)) | (refine isBslice ?_; refine W1.bslice (fill_all inC rfl) (fun _ _ => ?_))) <;> (try refine ⟨fun _ => rfl, ?_⟩)))) | (first | refine Ws.seq ?_ | refine Ws.region ?_ | refine Ws.draw (fun bd hbd => ?_) | refine Ws.cond rfl ?_ | refine Ws.skip ?_ | refine Ws.scope ?_ | refine Ws.block ?_ | refine Ws.exit ?_ | refine Ws.ret ?_)))
  refine Ws.fresh (l := (23, .int .i64 0) :: [(1, xv), (6, .ptr (some (b6, 0))), (21, v), (22, .int .i64 fs.length)]) ⟨rfl, rfl, rfl, rfl, rfl, trivial⟩ (fun B => ?_)
  refine Ws.loopG (X := Nat) (fun i => (23, .int .i64 (i : Nat)) :: [(1, xv), (6, .ptr (some (b6, 0))), (21, v), (22, .int .i64 fs.length)]) (fun i => (b6, ABlk.cells (ints (ovK 13 fs x i)) true) :: (b2, ABlk.cells [.int .i64 T, v] true) :: F) (fun i => i ≤ fs.length ∧ ∀ j, j < i → outI fs x j = false) (fun i => fs.length - i) 0 ⟨rfl, rfl, rfl, rfl, rfl, trivial⟩ (by rw [ovK_zero]; exact List.Sublist.refl _) ⟨Nat.zero_le _, fun j hj => absurd hj (Nat.not_lt_zero j)⟩ ?_
  rintro i B2 ⟨hi, hb⟩
  by_cases hic : i < fs.length
  · have hu := hN.u i hic
    have hxb : ∀ j, j < i → 0 ≤ x.getD j 0 ∧ x.getD j 0 ≤ 100000 := fun j hj => by
      have := of_decide_eq_false (hb j hj)
      have := hN.u j (by omega)
      omega
    obtain ⟨ta, hta⟩ : ∃ ta : Nat, (gF fs i).t = (ta : Nat) := ⟨(gF fs i).t.toNat, by omega⟩
    obtain ⟨fa, hfa⟩ : ∃ fa : Nat, (gF fs i).f = (fa : Nat) := ⟨(gF fs i).f.toNat, by omega⟩
    have hov1 := ov_in (fs := fs) (t := (ta : Nat)) hxb
    have hov2 := ov_in (fs := fs) (t := (fa : Nat)) hxb
    have hstep := ovK_step (K := 13) (x := x) hta hfa (by omega) (by omega) (by omega)
    have hg1 := ovK_get (K := 13) (fs := fs) (x := x) (n := i) (t := ta) (by omega)
    have hg2 := ovK_get (K := 13) (fs := fs) (x := x) (n := i) (t := fa) (by omega)
    have hlen := ovK_len (K := 13) (fs := fs) (x := x) (n := i)
    have hr' : FRow ((b6, ABlk.cells (ints (ovK 13 fs x i)) true) :: (b2, ABlk.cells [.int .i64 T, v] true) :: F) v fs := hr.cons.cons
    have hx' : ∀ {c : Nat × ABlk}, RowI (c :: (b6, ABlk.cells (ints (ovK 13 fs x i)) true) :: (b2, ABlk.cells [.int .i64 T, v] true) :: F) xv x := fun {c} => hx.cons.cons.cons
    by_cases hin : (gF fs i).lo ≤ x.getD i 0 ∧ x.getD i 0 ≤ (gF fs i).hi
    · have ho : outI fs x i = false := decide_eq_false (by omega)
      have hj1 : ta < (ovK 13 fs x i).length := by omega
      have hj2 : fa < ((ovK 13 fs x i).set ta (ov fs x i (ta : Nat) + x.getD i 0)).length := by rw [List.length_set]; omega
      have hg2' : ((ovK 13 fs x i).set ta (ov fs x i (ta : Nat) + x.getD i 0)).getD fa 0 = ov fs x i (fa : Nat) := by rw [getD_set_ne (by omega)]; exact hg2
      have hx2 : ∀ {c d e : Nat × ABlk}, RowI (c :: d :: e :: (b2, ABlk.cells [.int .i64 T, v] true) :: F) xv x := fun {c d e} => hx.cons.cons.cons.cons
      generalize eO : ovK 13 fs x i = O at *
      (repeat' (first | (first | refine Wo.nil ?_ | refine Wd.nil ?_ | ((first | refine Wo.cons ?_ | refine Wd.cons ?_); (try refine W1.go rfl rfl ?_); ((first | refine k1 ?_ | refine k2 ?_ | (refine isDst 2 ?_; refine W1.boxA rfl (fun b2 hb2 => ?_)) | (refine isDst 6 ?_; refine W1.alloc (fun b6 hb6 => ?_)) | (refine isDst 8 ?_; refine W1.alloc (fun b8 hb8 => ?_)) | (refine isDst 24 ?_; refine W1.cO ?_) | (refine isDst 26 ?_; refine W1.iaddrF i hr' rfl rfl rfl hic (fun b o la own hm h0 h1 h2 h3 h4 h5 => ?_)) | (refine isDst 27 ?_; refine W1.load rfl hm h4 ?_) | (refine isDst 30 ?_; refine W1.load1R rfl (List.mem_cons_self ..) rfl (ltAll (by assumption) (List.mem_cons_self ..)) ?_) | (refine isDst 33 ?_; refine W1.load1R rfl (List.mem_cons_self ..) rfl (ltAll (by assumption) (List.mem_cons_self ..)) ?_) | (refine isDst 36 ?_; refine W1.iaddrI hx' rfl rfl (by omega) (fun b o l' own hm h1 => ?_)) | (refine isDst 37 ?_; refine W1.load1 rfl hm h1 ?_) | (refine isDst 43 ?_; refine W1.iaddrA ta rfl rfl hta (by omega) ?_) | (refine isDst 44 ?_; refine W1.loadI rfl (by omega) inF hj1 ?_; rw [hg1]) | (refine isDst 47 ?_; refine W1.iaddrI hx2 rfl rfl (by omega) (fun b o l' own hm h1 => ?_)) | (refine isDst 48 ?_; refine W1.load1 rfl hm h1 ?_) | (refine isDst 50 ?_; refine W1.iaddrA ta rfl rfl hta (by omega) ?_) | (refine isTo 50 ?_; refine W1.storeI (xs := O) rfl (by omega) rfl inU hj1 hb6 ?_) | (refine isDst 53 ?_; refine W1.iaddrA fa rfl rfl hfa (by omega) ?_) | (refine isDst 54 ?_; refine W1.loadI rfl (by omega) inF hj2 ?_; rw [hg2']) | (refine isDst 57 ?_; refine W1.iaddrI hx2 rfl rfl (by omega) (fun b o l' own hm h1 => ?_)) | (refine isDst 58 ?_; refine W1.load1 rfl hm h1 ?_) | (refine isDst 60 ?_; refine W1.iaddrA fa rfl rfl hfa (by omega) ?_) | (refine isTo 60 ?_; refine W1.storeI (xs := O.set ta (ov fs x i (ta : Nat) + x.getD i 0)) rfl (by omega) rfl inU hj2 hb6 ?_) | (refine isDst 39 ?_; refine W1.pure rfl rfl (f53_1t inF hin) ?_) | refine W1.auto ?_ | ((first | refine kA ?_ | refine kB ?_ | refine kC ?_ | refine kD ?_ | refine kE ?_ | refine kF ?_ | refine kG ?_); refine ⟨fun _ => ?_, fun _ => ?_⟩) | refine W1.alloc (fun _ _ => ?_) | refine W1.boxA rfl (fun _ _ => ?_) | refine kq (fun _ _ => ?_) | refine kp ?_ | (refine isIaddrs ?_; first | refine W1.iaddrI inI rfl rfl (by omega) (fun _ _ _ _ _ _ => ?_) | refine W1.iaddrR inR rfl rfl (by omega) (fun _ _ _ _ _ _ _ => ?_)) | (refine isBox ?_; refine W1.boxS inW (by rfl) (fun _ _ => ?_)) | (refine isBslice ?_; refine W1.bslice (fill_all inC rfl) (fun _ _ => ?_))) <;> (try refine ⟨fun _ => rfl, ?_⟩)))) | (first | refine Ws.seq ?_ | refine Ws.region ?_ | refine Ws.draw (fun bd hbd => ?_) | refine Ws.cond rfl ?_ | refine Ws.skip ?_ | refine Ws.scope ?_ | refine Ws.block ?_ | refine Ws.exit ?_ | refine Ws.ret ?_)))
      refine ⟨i + 1, ⟨rfl, rfl, rfl, rfl, rfl, trivial⟩, ?_, ⟨hic, fun j hj => ?_⟩, by show _ - (i + 1) < _ - i; omega⟩
      · rw [← hstep]
        exact .cons _ (.cons _ (List.Sublist.refl _))
      · rcases Nat.lt_succ_iff_lt_or_eq.1 hj with hj | rfl
        · exact hb j hj
        · exact ho
    · have ho : outI fs x i = true := decide_eq_true (by omega)
      have e2 : (List.range fs.length).any (outI fs x) = true := anyR.2 ⟨i, hic, ho⟩
      rw [e1, if_pos e2]
      (repeat' (first | (first | refine Wo.nil ?_ | refine Wd.nil ?_ | ((first | refine Wo.cons ?_ | refine Wd.cons ?_); (try refine W1.go rfl rfl ?_); ((first | refine k1 ?_ | refine k2 ?_ | (refine isDst 2 ?_; refine W1.boxA rfl (fun b2 hb2 => ?_)) | (refine isDst 6 ?_; refine W1.alloc (fun b6 hb6 => ?_)) | (refine isDst 8 ?_; refine W1.alloc (fun b8 hb8 => ?_)) | (refine isDst 24 ?_; refine W1.cO ?_) | (refine isDst 26 ?_; refine W1.iaddrF i hr' rfl rfl rfl hic (fun b o la own hm h0 h1 h2 h3 h4 h5 => ?_)) | (refine isDst 27 ?_; refine W1.load rfl hm h4 ?_) | (refine isDst 30 ?_; refine W1.load1R rfl (List.mem_cons_self ..) rfl (ltAll (by assumption) (List.mem_cons_self ..)) ?_) | (refine isDst 33 ?_; refine W1.load1R rfl (List.mem_cons_self ..) rfl (ltAll (by assumption) (List.mem_cons_self ..)) ?_) | (refine isDst 36 ?_; refine W1.iaddrI hx' rfl rfl (by omega) (fun b o l' own hm h1 => ?_)) | (refine isDst 37 ?_; refine W1.load1 rfl hm h1 ?_) | (refine isDst 39 ?_; refine W1.pure rfl rfl (f53_1f inF hin) ?_) | refine W1.auto ?_ | ((first | refine kA ?_ | refine kB ?_ | refine kC ?_ | refine kD ?_ | refine kE ?_ | refine kF ?_ | refine kG ?_); refine ⟨fun _ => ?_, fun _ => ?_⟩) | refine W1.alloc (fun _ _ => ?_) | refine W1.boxA rfl (fun _ _ => ?_) | refine kq (fun _ _ => ?_) | refine kp ?_ | (refine isIaddrs ?_; first | refine W1.iaddrI inI rfl rfl (by omega) (fun _ _ _ _ _ _ => ?_) | refine W1.iaddrR inR rfl rfl (by omega) (fun _ _ _ _ _ _ _ => ?_)) | (refine isBox ?_; refine W1.boxS inW (by rfl) (fun _ _ => ?_)) | (refine isBslice ?_; refine W1.bslice (fill_all inC rfl) (fun _ _ => ?_))) <;> (try refine ⟨fun _ => rfl, ?_⟩)))) | (first | refine Ws.seq ?_ | refine Ws.region ?_ | refine Ws.draw (fun bd hbd => ?_) | refine Ws.cond rfl ?_ | refine Ws.skip ?_ | refine Ws.scope ?_ | refine Ws.block ?_ | refine Ws.exit ?_ | refine Ws.ret ?_)))
      (refine FnEnd.ret (F' := F) (vs := [_]) (by (first | refine ResF.tmp inW ?_ | refine ResF.cell rfl inF inP ?_); exact ResF.nil) inS ⟨?_, rfl⟩)
      rfl
  · obtain rfl : i = fs.length := by omega
    have e2 : ¬ (List.range fs.length).any (outI fs x) = true := by rw [anyR_no fun j hj => hb j hj]; simp
    rw [if_neg e2] at e1
    have e3 := badT_13 (x := x) hN
    have e4 : eqAV true [.int, .int, .int, .int, .int, .int, .int, .int, .int, .int, .int, .int, .int] (.agg (ints (ovK 13 fs x fs.length))) (.agg (ints (List.replicate 13 0))) = some (!badT T fs x) := by
      rw [← e3]
      have := leafs_ints (ovK 13 fs x fs.length) (List.replicate 13 0) (by rw [ovK_len, List.length_replicate])
      rw [ovK_len] at this
      exact this
    cases hbt : badT T fs x with
    | true =>
      rw [e1, if_pos hbt]
      rw [hbt] at e4
      (repeat' (first | (first | refine Wo.nil ?_ | refine Wd.nil ?_ | ((first | refine Wo.cons ?_ | refine Wd.cons ?_); (try refine W1.go rfl rfl ?_); ((first | refine k1 ?_ | refine k2 ?_ | (refine isDst 24 ?_; refine W1.cO ?_) | (refine isDst 62 ?_; refine W1.loadA rfl (List.mem_cons_self ..) (by simp [ovK_len]) ?_) | (refine isDst 64 ?_; refine W1.eqfB (t := false) rfl rfl e4 (fun _ => ?_) (fun h => by cases h)) | refine W1.auto ?_ | ((first | refine kA ?_ | refine kB ?_ | refine kC ?_ | refine kD ?_ | refine kE ?_ | refine kF ?_ | refine kG ?_); refine ⟨fun _ => ?_, fun _ => ?_⟩) | refine W1.alloc (fun _ _ => ?_) | refine W1.boxA rfl (fun _ _ => ?_) | refine kq (fun _ _ => ?_) | refine kp ?_ | (refine isIaddrs ?_; first | refine W1.iaddrI inI rfl rfl (by omega) (fun _ _ _ _ _ _ => ?_) | refine W1.iaddrR inR rfl rfl (by omega) (fun _ _ _ _ _ _ _ => ?_)) | (refine isBox ?_; refine W1.boxS inW (by rfl) (fun _ _ => ?_)) | (refine isBslice ?_; refine W1.bslice (fill_all inC rfl) (fun _ _ => ?_))) <;> (try refine ⟨fun _ => rfl, ?_⟩)))) | (first | refine Ws.seq ?_ | refine Ws.region ?_ | refine Ws.draw (fun bd hbd => ?_) | refine Ws.cond rfl ?_ | refine Ws.skip ?_ | refine Ws.scope ?_ | refine Ws.block ?_ | refine Ws.exit ?_ | refine Ws.ret ?_)))
      (refine FnEnd.ret (F' := F) (vs := [_]) (by (first | refine ResF.tmp inW ?_ | refine ResF.cell rfl inF inP ?_); exact ResF.nil) inS ⟨?_, rfl⟩)
      rfl
    | false =>
      rw [e1, if_neg (by rw [hbt]; simp)]
      rw [hbt] at e4
      (repeat' (first | (first | refine Wo.nil ?_ | refine Wd.nil ?_ | ((first | refine Wo.cons ?_ | refine Wd.cons ?_); (try refine W1.go rfl rfl ?_); ((first | refine k1 ?_ | refine k2 ?_ | (refine isDst 24 ?_; refine W1.cO ?_) | (refine isDst 62 ?_; refine W1.loadA rfl (List.mem_cons_self ..) (by simp [ovK_len]) ?_) | (refine isDst 64 ?_; refine W1.eqfB (t := true) rfl rfl e4 (fun h => by cases h) (fun _ => ?_)) | refine W1.auto ?_ | ((first | refine kA ?_ | refine kB ?_ | refine kC ?_ | refine kD ?_ | refine kE ?_ | refine kF ?_ | refine kG ?_); refine ⟨fun _ => ?_, fun _ => ?_⟩) | refine W1.alloc (fun _ _ => ?_) | refine W1.boxA rfl (fun _ _ => ?_) | refine kq (fun _ _ => ?_) | refine kp ?_ | (refine isIaddrs ?_; first | refine W1.iaddrI inI rfl rfl (by omega) (fun _ _ _ _ _ _ => ?_) | refine W1.iaddrR inR rfl rfl (by omega) (fun _ _ _ _ _ _ _ => ?_)) | (refine isBox ?_; refine W1.boxS inW (by rfl) (fun _ _ => ?_)) | (refine isBslice ?_; refine W1.bslice (fill_all inC rfl) (fun _ _ => ?_))) <;> (try refine ⟨fun _ => rfl, ?_⟩)))) | (first | refine Ws.seq ?_ | refine Ws.region ?_ | refine Ws.draw (fun bd hbd => ?_) | refine Ws.cond rfl ?_ | refine Ws.skip ?_ | refine Ws.scope ?_ | refine Ws.block ?_ | refine Ws.exit ?_ | refine Ws.ret ?_)))
      (refine FnEnd.ret (F' := F) (vs := [_]) (by (first | refine ResF.tmp inW ?_ | refine ResF.cell rfl inF inP ?_); exact ResF.nil) inS ⟨?_, rfl⟩)
      rfl
end Go.Ax
