/-
  Contracts: litres over, which amounts are a truth, by the reference.
-/
import Derived.Test.YtjcehnfhkgbpiaaXNJ
namespace Go.Ax
set_option maxHeartbeats 1000000
set_option maxRecDepth 6000
set_option linter.unusedSimpArgs false
set_option linter.unusedVariables false
attribute [-simp] List.getD_eq_getElem?_getD
variable {lo : Nat} {F : Hp}
theorem f54_ok {T : Int} {fs : List Fl} {x : List Int} {v xv : AV} (hN : Net T fs) (hr : FRow F v fs) (hx : RowI F xv x) (hxl : x.length = fs.length) (hxb : ∀ j, j < fs.length → 0 ≤ x.getD j 0 ∧ x.getD j 0 ≤ 100000) :
    Fn tblW lo (fnv 54) [netV T v, xv] F (fun r F' => ∃ b5, lo ≤ b5 ∧ r = AV.slc (some (b5, 0)) (T.toNat + 1) (T.toNat + 1) true 1 ∧ F' = (b5, .cells (ints (ovK (T.toNat + 1) fs x fs.length)) true) :: F) := by
  refine Fn.func (fn := af54) rfl rfl ?_
  have hn := hN.n
  have hT := hN.t
  (repeat' (first | (first | refine Wo.nil ?_ | refine Wd.nil ?_ | ((first | refine Wo.cons ?_ | refine Wd.cons ?_); (try refine W1.go rfl rfl ?_); ((first | refine k1 ?_ | refine k2 ?_ | (refine isDst 2 ?_; refine W1.boxA rfl (fun b2 hb2 => ?_)) | (refine isDst 10 ?_; refine W1.mkslcIz (T.toNat + 1) rfl rfl (by omega) (by unfold room; omega) (fun b5 hb5 => ?_)) | refine W1.auto ?_ | ((first | refine kA ?_ | refine kB ?_ | refine kC ?_ | refine kD ?_ | refine kE ?_ | refine kF ?_ | refine kG ?_); refine ⟨fun _ => ?_, fun _ => ?_⟩)) <;> (try refine ⟨fun _ => rfl, ?_⟩)))) | (first | refine Ws.seq ?_ | refine Ws.region ?_ | refine Ws.draw (fun bd hbd => ?_) | refine Ws.cond rfl ?_ | refine Ws.skip ?_ | refine Ws.scope ?_ | refine Ws.block ?_ | refine Ws.exit ?_ | refine Ws.ret ?_)))
  refine Ws.fresh (l := (6, .int .i64 0) :: [(1, xv), (2, .ptr (some (b2, 0))), (5, AV.slc (some (b5, 0)) (T.toNat + 1) (T.toNat + 1) true 1)]) ⟨rfl, rfl, rfl, rfl, trivial⟩ (fun B => ?_)
  refine Ws.loopG (X := Nat) (fun i => (6, .int .i64 (i : Nat)) :: [(1, xv), (2, .ptr (some (b2, 0))), (5, AV.slc (some (b5, 0)) (T.toNat + 1) (T.toNat + 1) true 1)]) (fun i => (b5, ABlk.cells (ints (ovK (T.toNat + 1) fs x i)) true) :: (b2, ABlk.cells [.int .i64 T, v] true) :: F) (fun i => i ≤ fs.length) (fun i => fs.length - i) 0 ⟨rfl, rfl, rfl, rfl, trivial⟩ (by rw [ovK_zero]; exact List.Sublist.refl _) (Nat.zero_le _) ?_
  rintro i B2 hi
  have hx' : RowI ((b5, ABlk.cells (ints (ovK (T.toNat + 1) fs x i)) true) :: (b2, ABlk.cells [.int .i64 T, v] true) :: F) xv x := hx.cons.cons
  by_cases hic : i < fs.length
  · have hu := hN.u i hic
    have hxi := hxb i hic
    obtain ⟨ta, hta⟩ : ∃ ta : Nat, (gF fs i).t = (ta : Nat) := ⟨(gF fs i).t.toNat, by omega⟩
    obtain ⟨fa, hfa⟩ : ∃ fa : Nat, (gF fs i).f = (fa : Nat) := ⟨(gF fs i).f.toNat, by omega⟩
    have hov1 := ov_in (fs := fs) (t := (ta : Nat)) (n := i) fun j hj => hxb j (by omega)
    have hov2 := ov_in (fs := fs) (t := (fa : Nat)) (n := i) fun j hj => hxb j (by omega)
    have hstep := ovK_step (K := T.toNat + 1) (x := x) hta hfa (by omega) (by omega) (by omega)
    have hg1 := ovK_get (K := T.toNat + 1) (fs := fs) (x := x) (n := i) (t := ta) (by omega)
    have hg2 := ovK_get (K := T.toNat + 1) (fs := fs) (x := x) (n := i) (t := fa) (by omega)
    have hlen := ovK_len (K := T.toNat + 1) (fs := fs) (x := x) (n := i)
    have hr' : FRow ((b5, ABlk.cells (ints (ovK (T.toNat + 1) fs x i)) true) :: (b2, ABlk.cells [.int .i64 T, v] true) :: F) v fs := hr.cons.cons
    have hj1 : ta < (ovK (T.toNat + 1) fs x i).length := by omega
    have hj2 : fa < ((ovK (T.toNat + 1) fs x i).set ta (ov fs x i (ta : Nat) + x.getD i 0)).length := by rw [List.length_set]; omega
    have hg2' : ((ovK (T.toNat + 1) fs x i).set ta (ov fs x i (ta : Nat) + x.getD i 0)).getD fa 0 = ov fs x i (fa : Nat) := by rw [getD_set_ne (by omega)]; exact hg2
    have hx2 : ∀ {c : Nat × ABlk}, RowI (c :: (b2, ABlk.cells [.int .i64 T, v] true) :: F) xv x := fun {c} => hx.cons.cons
    have hr2 : ∀ {c : Nat × ABlk}, FRow (c :: (b2, ABlk.cells [.int .i64 T, v] true) :: F) v fs := fun {c} => hr.cons.cons
    generalize eO : ovK (T.toNat + 1) fs x i = O at *
    (repeat' (first | (first | refine Wo.nil ?_ | refine Wd.nil ?_ | ((first | refine Wo.cons ?_ | refine Wd.cons ?_); (try refine W1.go rfl rfl ?_); ((first | refine k1 ?_ | refine k2 ?_ | (refine isDst 2 ?_; refine W1.boxA rfl (fun b2 hb2 => ?_)) | (refine isDst 10 ?_; refine W1.mkslcIz (T.toNat + 1) rfl rfl (by omega) (by unfold room; omega) (fun b5 hb5 => ?_)) | (refine isDst 13 ?_; refine W1.lenI hx' rfl ?_) | (refine isDst 14 ?_; refine W1.cO ?_) | (refine isDst 21 ?_; refine W1.iaddrF i hr2 rfl rfl rfl hic (fun b o la own hm h0 h1 h2 h3 h4 h5 => ?_)) | (refine isDst 23 ?_; refine W1.load1 rfl hm h1 ?_) | (refine isDst 36 ?_; refine W1.iaddrF i hr2 rfl rfl rfl hic (fun b o la own hm h0 h1 h2 h3 h4 h5 => ?_)) | (refine isDst 38 ?_; refine W1.load1 rfl hm h0 ?_) | (refine isDst 24 ?_; refine W1.iaddrz ta rfl rfl hta (by omega) ?_) | (refine isDst 25 ?_; refine W1.loadI rfl (by omega) inF hj1 ?_; rw [hg1]) | (refine isDst 28 ?_; refine W1.iaddrI hx2 rfl rfl (by omega) (fun b o l' own hm h1 => ?_)) | (refine isDst 29 ?_; refine W1.load1 rfl hm h1 ?_) | (refine isDst 31 ?_; refine W1.iaddrz ta rfl rfl hta (by omega) ?_) | (refine isTo 31 ?_; refine W1.storeI (xs := O) rfl (by omega) rfl inU hj1 hb5 ?_) | (refine isDst 39 ?_; refine W1.iaddrz fa rfl rfl hfa (by omega) ?_) | (refine isDst 40 ?_; refine W1.loadI rfl (by omega) inF hj2 ?_; rw [hg2']) | (refine isDst 43 ?_; refine W1.iaddrI hx2 rfl rfl (by omega) (fun b o l' own hm h1 => ?_)) | (refine isDst 44 ?_; refine W1.load1 rfl hm h1 ?_) | (refine isDst 46 ?_; refine W1.iaddrz fa rfl rfl hfa (by omega) ?_) | (refine isTo 46 ?_; refine W1.storeI (xs := O.set ta (ov fs x i (ta : Nat) + x.getD i 0)) rfl (by omega) rfl inU hj2 hb5 ?_) | refine W1.auto ?_ | ((first | refine kA ?_ | refine kB ?_ | refine kC ?_ | refine kD ?_ | refine kE ?_ | refine kF ?_ | refine kG ?_); refine ⟨fun _ => ?_, fun _ => ?_⟩)) <;> (try refine ⟨fun _ => rfl, ?_⟩)))) | (first | refine Ws.seq ?_ | refine Ws.region ?_ | refine Ws.draw (fun bd hbd => ?_) | refine Ws.cond rfl ?_ | refine Ws.skip ?_ | refine Ws.scope ?_ | refine Ws.block ?_ | refine Ws.exit ?_ | refine Ws.ret ?_)))
    refine ⟨i + 1, ⟨rfl, rfl, rfl, rfl, trivial⟩, ?_, hic, by show _ - (i + 1) < _ - i; omega⟩
    rw [← hstep]
    exact List.Sublist.refl _
  · obtain rfl : i = fs.length := by omega
    (repeat' (first | (first | refine Wo.nil ?_ | refine Wd.nil ?_ | ((first | refine Wo.cons ?_ | refine Wd.cons ?_); (try refine W1.go rfl rfl ?_); ((first | refine k1 ?_ | refine k2 ?_ | (refine isDst 13 ?_; refine W1.lenI hx' rfl ?_) | (refine isDst 14 ?_; refine W1.cO ?_) | refine W1.auto ?_ | ((first | refine kA ?_ | refine kB ?_ | refine kC ?_ | refine kD ?_ | refine kE ?_ | refine kF ?_ | refine kG ?_); refine ⟨fun _ => ?_, fun _ => ?_⟩)) <;> (try refine ⟨fun _ => rfl, ?_⟩)))) | (first | refine Ws.seq ?_ | refine Ws.region ?_ | refine Ws.draw (fun bd hbd => ?_) | refine Ws.cond rfl ?_ | refine Ws.skip ?_ | refine Ws.scope ?_ | refine Ws.block ?_ | refine Ws.exit ?_ | refine Ws.ret ?_)))
    refine FnEnd.ret (F' := (b5, .cells (ints (ovK (T.toNat + 1) fs x fs.length)) true) :: F) (vs := [_]) (.tmp rfl .nil) inS ⟨b5, hb5, rfl, rfl⟩
theorem f22_ok {T : Int} {fs : List Fl} {x : List Int} {v xv : AV} (hr : FRow F v fs) (hl : fs.length ≤ 9223372036854775807) (hx : RowI F xv x) (hxl : x.length ≤ 9223372036854775807) : Pure tblW (fnv 22) [netV T v, xv] F (.int .i64 (chkT T fs x)) := by
  intro lo
  refine Fn.func (fn := af22) rfl rfl ?_
  by_cases h0 : chkN T fs = 0
  rotate_left
  · have e1 : chkT T fs x = chkN T fs := by unfold chkT; rw [if_pos h0]
    rw [e1]
    (repeat' (first | (first | refine Wo.nil ?_ | refine Wd.nil ?_ | ((first | refine Wo.cons ?_ | refine Wd.cons ?_); (try refine W1.go rfl rfl ?_); ((first | refine k1 ?_ | refine k2 ?_ | (refine isDst 2 ?_; refine W1.boxA rfl (fun b2 hb2 => ?_)) | (refine isDst 9 ?_; refine W1.pure rfl rfl (f20_ok hr.cons hl) ?_) | (refine isDst 12 ?_; refine W1.pure rfl rfl (f20_ok hr.cons hl) ?_) | (refine isDst 14 ?_; refine W1.lenI hx.cons rfl ?_) | (refine isDst 17 ?_; refine W1.lenZ hr.cons rfl ?_) | refine W1.cO ?_ | refine W1.auto ?_ | ((first | refine kA ?_ | refine kB ?_ | refine kC ?_ | refine kD ?_ | refine kE ?_ | refine kF ?_ | refine kG ?_); refine ⟨fun _ => ?_, fun _ => ?_⟩)) <;> (try refine ⟨fun _ => rfl, ?_⟩)))) | (first | refine Ws.seq ?_ | refine Ws.region ?_ | refine Ws.draw (fun bd hbd => ?_) | refine Ws.cond rfl ?_ | refine Ws.skip ?_ | refine Ws.scope ?_ | refine Ws.block ?_ | refine Ws.exit ?_ | refine Ws.ret ?_)))
    (refine FnEnd.ret (F' := F) (vs := [_]) (by (first | refine ResF.tmp inW ?_ | refine ResF.cell rfl inF inP ?_); exact ResF.nil) inS ⟨?_, rfl⟩)
    rfl
  have hN := chkN_net.1 h0
  have hn := hN.n
  have hT := hN.t
  by_cases h1 : x.length = fs.length
  rotate_left
  · have e1 : chkT T fs x = 15 := by unfold chkT; rw [if_neg (by omega), if_pos h1]
    rw [e1]
    (repeat' (first | (first | refine Wo.nil ?_ | refine Wd.nil ?_ | ((first | refine Wo.cons ?_ | refine Wd.cons ?_); (try refine W1.go rfl rfl ?_); ((first | refine k1 ?_ | refine k2 ?_ | (refine isDst 2 ?_; refine W1.boxA rfl (fun b2 hb2 => ?_)) | (refine isDst 9 ?_; refine W1.pure rfl rfl (f20_ok hr.cons hl) ?_) | (refine isDst 12 ?_; refine W1.pure rfl rfl (f20_ok hr.cons hl) ?_) | (refine isDst 14 ?_; refine W1.lenI hx.cons rfl ?_) | (refine isDst 17 ?_; refine W1.lenZ hr.cons rfl ?_) | refine W1.cO ?_ | refine W1.auto ?_ | ((first | refine kA ?_ | refine kB ?_ | refine kC ?_ | refine kD ?_ | refine kE ?_ | refine kF ?_ | refine kG ?_); refine ⟨fun _ => ?_, fun _ => ?_⟩)) <;> (try refine ⟨fun _ => rfl, ?_⟩)))) | (first | refine Ws.seq ?_ | refine Ws.region ?_ | refine Ws.draw (fun bd hbd => ?_) | refine Ws.cond rfl ?_ | refine Ws.skip ?_ | refine Ws.scope ?_ | refine Ws.block ?_ | refine Ws.exit ?_ | refine Ws.ret ?_)))
    (refine FnEnd.ret (F' := F) (vs := [_]) (by (first | refine ResF.tmp inW ?_ | refine ResF.cell rfl inF inP ?_); exact ResF.nil) inS ⟨?_, rfl⟩)
    rfl
  have e1 : chkT T fs x = if (List.range fs.length).any (outI fs x) = true then 3 else if badT T fs x = true then 14 else 0 := by unfold chkT badT; rw [if_neg (by omega), if_neg (by omega)]
  (repeat' (first | (first | refine Wo.nil ?_ | refine Wd.nil ?_ | ((first | refine Wo.cons ?_ | refine Wd.cons ?_); (try refine W1.go rfl rfl ?_); ((first | refine k1 ?_ | refine k2 ?_ | (refine isDst 2 ?_; refine W1.boxA rfl (fun b2 hb2 => ?_)) | (refine isDst 9 ?_; refine W1.pure rfl rfl (f20_ok hr.cons hl) ?_) | (refine isDst 12 ?_; refine W1.pure rfl rfl (f20_ok hr.cons hl) ?_) | (refine isDst 14 ?_; refine W1.lenI hx.cons rfl ?_) | (refine isDst 17 ?_; refine W1.lenZ hr.cons rfl ?_) | refine W1.cO ?_ | refine W1.auto ?_ | ((first | refine kA ?_ | refine kB ?_ | refine kC ?_ | refine kD ?_ | refine kE ?_ | refine kF ?_ | refine kG ?_); refine ⟨fun _ => ?_, fun _ => ?_⟩)) <;> (try refine ⟨fun _ => rfl, ?_⟩)))) | (first | refine Ws.seq ?_ | refine Ws.region ?_ | refine Ws.draw (fun bd hbd => ?_) | refine Ws.cond rfl ?_ | refine Ws.skip ?_ | refine Ws.scope ?_ | refine Ws.block ?_ | refine Ws.exit ?_ | refine Ws.ret ?_)))
  have hx' : RowI ((b2, ABlk.cells [.int .i64 T, v] true) :: F) xv x := hx.cons
  have hr' : FRow ((b2, ABlk.cells [.int .i64 T, v] true) :: F) v fs := hr.cons
  refine Ws.fresh (l := (5, .int .i64 0) :: [(1, xv), (2, .ptr (some (b2, 0)))]) ⟨rfl, rfl, rfl, trivial⟩ (fun B => ?_)
  refine Ws.loopG (X := Nat) (fun i => (5, .int .i64 (i : Nat)) :: [(1, xv), (2, .ptr (some (b2, 0)))]) (fun i => (b2, ABlk.cells [.int .i64 T, v] true) :: F) (fun i => i ≤ fs.length ∧ ∀ j, j < i → outI fs x j = false) (fun i => fs.length - i) 0 ⟨rfl, rfl, rfl, trivial⟩ (List.Sublist.refl _) ⟨Nat.zero_le _, fun j hj => absurd hj (Nat.not_lt_zero j)⟩ ?_
  rintro i B2 ⟨hi, hb⟩
  by_cases hic : i < fs.length
  · have hany : outI fs x i = true → (List.range fs.length).any (outI fs x) = true := fun h => anyR.2 ⟨i, hic, h⟩
    (repeat' (first | (first | refine Wo.nil ?_ | refine Wd.nil ?_ | ((first | refine Wo.cons ?_ | refine Wd.cons ?_); (try refine W1.go rfl rfl ?_); ((first | refine k1 ?_ | refine k2 ?_ | (refine isDst 21 ?_; refine W1.lenI hx' rfl ?_) | (refine isDst 22 ?_; refine W1.cO ?_) | (refine isDst 27 ?_; refine W1.iaddrI hx' rfl rfl (by omega) (fun b o l' own hm h1 => ?_)) | (refine isDst 28 ?_; refine W1.load1 rfl hm h1 ?_) | (refine isDst 40 ?_; refine W1.iaddrI hx' rfl rfl (by omega) (fun b o l' own hm h1 => ?_)) | (refine isDst 41 ?_; refine W1.load1 rfl hm h1 ?_) | (refine isDst 32 ?_; refine W1.iaddrF i hr' rfl rfl rfl hic (fun b o la own hm h0 h1 h2 h3 h4 h5 => ?_)) | (refine isDst 35 ?_; refine W1.load1 rfl hm h2 ?_) | (refine isDst 45 ?_; refine W1.iaddrF i hr' rfl rfl rfl hic (fun b o la own hm h0 h1 h2 h3 h4 h5 => ?_)) | (refine isDst 48 ?_; refine W1.load1 rfl hm h3 ?_) | refine W1.auto ?_ | ((first | refine kA ?_ | refine kB ?_ | refine kC ?_ | refine kD ?_ | refine kE ?_ | refine kF ?_ | refine kG ?_); refine ⟨fun _ => ?_, fun _ => ?_⟩)) <;> (try refine ⟨fun _ => rfl, ?_⟩)))) | (first | refine Ws.seq ?_ | refine Ws.region ?_ | refine Ws.draw (fun bd hbd => ?_) | refine Ws.cond rfl ?_ | refine Ws.skip ?_ | refine Ws.scope ?_ | refine Ws.block ?_ | refine Ws.exit ?_ | refine Ws.ret ?_)))
    · rw [e1, if_pos (hany (decide_eq_true (by omega)))]
      (refine FnEnd.ret (F' := F) (vs := [_]) (by (first | refine ResF.tmp inW ?_ | refine ResF.cell rfl inF inP ?_); exact ResF.nil) inS ⟨?_, rfl⟩)
      rfl
    · rw [e1, if_pos (hany (decide_eq_true (by omega)))]
      (refine FnEnd.ret (F' := F) (vs := [_]) (by (first | refine ResF.tmp inW ?_ | refine ResF.cell rfl inF inP ?_); exact ResF.nil) inS ⟨?_, rfl⟩)
      rfl
    · refine ⟨i + 1, ⟨rfl, rfl, rfl, trivial⟩, inS, ⟨hic, fun j hj => ?_⟩, by show _ - (i + 1) < _ - i; omega⟩
      rcases Nat.lt_succ_iff_lt_or_eq.1 hj with hj | rfl
      · exact hb j hj
      · exact decide_eq_false (by omega)
  · obtain rfl : i = fs.length := by omega
    have e2 : ¬ (List.range fs.length).any (outI fs x) = true := by rw [anyR_no fun j hj => hb j hj]; simp
    rw [if_neg e2] at e1
    have hxb : ∀ j, j < fs.length → 0 ≤ x.getD j 0 ∧ x.getD j 0 ≤ 100000 := fun j hj => by
      have := of_decide_eq_false (hb j hj)
      have := hN.u j (by omega)
      omega
    generalize eO : ovK (T.toNat + 1) fs x fs.length = O
    have hOl : O.length = T.toNat + 1 := by rw [← eO]; exact ovK_len
    have hOg : ∀ t, t < T.toNat + 1 → O.getD t 0 = ov fs x fs.length (t : Nat) := fun t ht => by rw [← eO]; exact ovK_get ht
    (repeat' (first | (first | refine Wo.nil ?_ | refine Wd.nil ?_ | ((first | refine Wo.cons ?_ | refine Wd.cons ?_); (try refine W1.go rfl rfl ?_); ((first | refine k1 ?_ | refine k2 ?_ | (refine isDst 21 ?_; refine W1.lenI hx' rfl ?_) | (refine isDst 22 ?_; refine W1.cO ?_) | (refine isDst 27 ?_; refine W1.iaddrI hx' rfl rfl (by omega) (fun b o l' own hm h1 => ?_)) | (refine isDst 28 ?_; refine W1.load1 rfl hm h1 ?_) | (refine isDst 40 ?_; refine W1.iaddrI hx' rfl rfl (by omega) (fun b o l' own hm h1 => ?_)) | (refine isDst 41 ?_; refine W1.load1 rfl hm h1 ?_) | (refine isDst 32 ?_; refine W1.iaddrF i hr' rfl rfl rfl hic (fun b o la own hm h0 h1 h2 h3 h4 h5 => ?_)) | (refine isDst 35 ?_; refine W1.load1 rfl hm h2 ?_) | (refine isDst 45 ?_; refine W1.iaddrF i hr' rfl rfl rfl hic (fun b o la own hm h0 h1 h2 h3 h4 h5 => ?_)) | (refine isDst 48 ?_; refine W1.load1 rfl hm h3 ?_) | (refine isDst 51 ?_; refine W1.loadA rfl (List.mem_cons_self ..) rfl ?_) | (refine isDst 53 ?_; refine W1.callM rfl rfl ((f54_ok hN hr' hx' (by omega) hxb).mono ?_); rintro _ _ ⟨b5, hb5, rfl, rfl⟩; rw [eO]) | refine W1.auto ?_ | ((first | refine kA ?_ | refine kB ?_ | refine kC ?_ | refine kD ?_ | refine kE ?_ | refine kF ?_ | refine kG ?_); refine ⟨fun _ => ?_, fun _ => ?_⟩)) <;> (try refine ⟨fun _ => rfl, ?_⟩)))) | (first | refine Ws.seq ?_ | refine Ws.region ?_ | refine Ws.draw (fun bd hbd => ?_) | refine Ws.cond rfl ?_ | refine Ws.skip ?_ | refine Ws.scope ?_ | refine Ws.block ?_ | refine Ws.exit ?_ | refine Ws.ret ?_)))
    refine Ws.fresh (l := (7, .int .i64 0) :: [(6, AV.slc (some (b5, 0)) (T.toNat + 1) (T.toNat + 1) true 1)]) ⟨rfl, rfl, trivial⟩ (fun B => ?_)
    refine Ws.loopG (X := Nat) (fun i => (7, .int .i64 (i : Nat)) :: [(6, AV.slc (some (b5, 0)) (T.toNat + 1) (T.toNat + 1) true 1)]) (fun i => (b5, .cells (ints O) true) :: F) (fun i => i ≤ T.toNat + 1 ∧ ∀ j, j < i → O.getD j 0 = 0) (fun i => T.toNat + 1 - i) 0 ⟨rfl, rfl, trivial⟩ inS ⟨Nat.zero_le _, fun j hj => absurd hj (Nat.not_lt_zero j)⟩ ?_
    rintro t B3 ⟨ht, hz⟩
    by_cases htc : t < T.toNat + 1
    · have hg := hOg t htc
      (repeat' (first | (first | refine Wo.nil ?_ | refine Wd.nil ?_ | ((first | refine Wo.cons ?_ | refine Wd.cons ?_); (try refine W1.go rfl rfl ?_); ((first | refine k1 ?_ | refine k2 ?_ | (refine isDst 56 ?_; refine W1.lenv rfl ?_) | (refine isDst 57 ?_; refine W1.cO ?_) | (refine isDst 62 ?_; refine W1.iaddrz t rfl rfl rfl htc ?_) | (refine isDst 63 ?_; refine W1.loadI (j := t) (xs := O) rfl (by omega) (List.mem_cons_self ..) (by omega) ?_) | refine W1.auto ?_ | ((first | refine kA ?_ | refine kB ?_ | refine kC ?_ | refine kD ?_ | refine kE ?_ | refine kF ?_ | refine kG ?_); refine ⟨fun _ => ?_, fun _ => ?_⟩)) <;> (try refine ⟨fun _ => rfl, ?_⟩)))) | (first | refine Ws.seq ?_ | refine Ws.region ?_ | refine Ws.draw (fun bd hbd => ?_) | refine Ws.cond rfl ?_ | refine Ws.skip ?_ | refine Ws.scope ?_ | refine Ws.block ?_ | refine Ws.exit ?_ | refine Ws.ret ?_)))
      · have hbt : badT T fs x = true := anyR.2 ⟨t, htc, decide_eq_true (by omega)⟩
        rw [e1, if_pos hbt]
        (refine FnEnd.ret (F' := F) (vs := [_]) (by (first | refine ResF.tmp inW ?_ | refine ResF.cell rfl inF inP ?_); exact ResF.nil) inS ⟨?_, rfl⟩)
        rfl
      · refine ⟨t + 1, ⟨rfl, rfl, trivial⟩, inS, ⟨htc, fun j hj => ?_⟩, by show _ - (t + 1) < _ - t; omega⟩
        rcases Nat.lt_succ_iff_lt_or_eq.1 hj with hj | rfl
        · exact hz j hj
        · assumption
    · have hbt : badT T fs x = false := anyR_no fun j hj => decide_eq_false (by have := hz j (by omega); have := hOg j hj; omega)
      rw [e1, if_neg (by rw [hbt]; simp)]
      (repeat' (first | (first | refine Wo.nil ?_ | refine Wd.nil ?_ | ((first | refine Wo.cons ?_ | refine Wd.cons ?_); (try refine W1.go rfl rfl ?_); ((first | refine k1 ?_ | refine k2 ?_ | (refine isDst 56 ?_; refine W1.lenv rfl ?_) | (refine isDst 57 ?_; refine W1.cO ?_) | refine W1.auto ?_ | ((first | refine kA ?_ | refine kB ?_ | refine kC ?_ | refine kD ?_ | refine kE ?_ | refine kF ?_ | refine kG ?_); refine ⟨fun _ => ?_, fun _ => ?_⟩)) <;> (try refine ⟨fun _ => rfl, ?_⟩)))) | (first | refine Ws.seq ?_ | refine Ws.region ?_ | refine Ws.draw (fun bd hbd => ?_) | refine Ws.cond rfl ?_ | refine Ws.skip ?_ | refine Ws.scope ?_ | refine Ws.block ?_ | refine Ws.exit ?_ | refine Ws.ret ?_)))
      (refine FnEnd.ret (F' := F) (vs := [_]) (by (first | refine ResF.tmp inW ?_ | refine ResF.cell rfl inF inP ?_); exact ResF.nil) inS ⟨?_, rfl⟩)
      rfl
end Go.Ax
