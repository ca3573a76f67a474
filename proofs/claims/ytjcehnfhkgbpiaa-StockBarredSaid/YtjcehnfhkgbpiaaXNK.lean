/-
  Contracts: litres over, which amounts are a truth, by the reference.
-/
import Derived.Test.YtjcehnfhkgbpiaaXNJ
namespace Go.Ax
set_option maxHeartbeats 1000000
set_option maxRecDepth 6000
set_option linter.unusedSimpArgs false
set_option linter.unusedVariables false
attribute [-simp] List.getD_eq_getElem?_getD
variable {lo : Nat} {F : Hp}
theorem f54_ok {T : Int} {fs : List Fl} {x : List Int} {v xv : AV} (hN : Net T fs) (hr : FRow F v fs) (hx : RowI F xv x) (hxl : x.length = fs.length) (hxb : ∀ j, j < fs.length → 0 ≤ x.getD j 0 ∧ x.getD j 0 ≤ 100000) :
    Fn tblW lo (fnv 54) [netV T v, xv] F (fun r F' => ∃ b5, lo ≤ b5 ∧ r = AV.slc (some (b5, 0)) (T.toNat + 1) (T.toNat + 1) true 1 ∧ F' = (b5, .cells (ints (ovK (T.toNat + 1) fs x fs.length)) true) :: F) := by
  refine Fn.func (fn := af54) rfl rfl ?_
  have hn := hN.n
  have hT := hN.t
  (repeat' (first | (first | refine Wo.nil ?_ | refine Wd.nil ?_ | ((first | refine Wo.cons ?_ | refine Wd.cons ?_); (try refine W1.go rfl rfl ?_); ((first | refine k1 ?_ | refine k2 ?_ | (refine isDst 2 ?_; refine W1.boxA rfl (fun b2 hb2 => ?_)) | (refine isDst 10 ?_; refine W1.mkslcIz (T.toNat + 1) rfl rfl (by omega) (by unfold room; omega) (fun b5 hb5 => ?_)) | refine W1.auto ?_ | ((first | refine kA ?_ | refine kB ?_ | refine kC ?_ | refine kD ?_ | refine kE ?_ | refine kF ?_ | refine kG ?_); refine ⟨fun _ => ?_, fun _ => ?_⟩)) <;> (try refine ⟨fun _ => rfl, ?_⟩)))) | (first | refine Ws.seq ?_ | refine Ws.region ?_ | refine Ws.draw (fun bd hbd => ?_) | refine Ws.cond rfl ?_ | refine Ws.skip ?_ | refine Ws.scope ?_ | refine Ws.block ?_ | refine Ws.exit ?_ | refine Ws.ret ?_)))
  refine Ws.fresh (l := (6, .int .i64 0) :: [(1, xv), (2, .ptr (some (b2, 0))), (5, AV.slc (some (b5, 0)) (T.toNat + 1) (T.toNat + 1) true 1)]) ⟨rfl, rfl, rfl, rfl, trivial⟩ (fun B => ?_)
  refine Ws.loopG (X := Nat) (fun i => (6, .int .i64 (i : Nat)) :: [(1, xv), (2, .ptr (some (b2, 0))), (5, AV.slc (some (b5, 0)) (T.toNat + 1) (T.toNat + 1) true 1)]) (fun i => (b5, ABlk.cells (ints (ovK (T.toNat + 1) fs x i)) true) :: (b2, ABlk.cells [.int .i64 T, v] true) :: F) (fun i => i ≤ fs.length) (fun i => fs.length - i) 0 ⟨rfl, rfl, rfl, rfl, trivial⟩ (by rw [ovK_zero]; exact List.Sublist.refl _) (Nat.zero_le _) ?_
  rintro i B2 hi
  have hx' : RowI ((b5, ABlk.cells (ints (ovK (T.toNat + 1) fs x i)) true) :: (b2, ABlk.cells [.int .i64 T, v] true) :: F) xv x := hx.cons.cons
  by_cases hic : i < fs.length
  · have hu := hN.u i hic
    have hxi := hxb i hic
    obtain ⟨ta, hta⟩ : ∃ ta : Nat, (gF fs i).t = (ta : Nat) := ⟨(gF fs i).t.toNat, by omega⟩
    obtain ⟨fa, hfa⟩ : ∃ fa : Nat, (gF fs i).f = (fa : Nat) := ⟨(gF fs i).f.toNat, by omega⟩
    have hov1 := ov_in (fs := fs) (t := (ta : Nat)) (n := i) fun j hj => hxb j (by omega)
    have hov2 := ov_in (fs := fs) (t := (fa : Nat)) (n := i) fun j hj => hxb j (by omega)
    have hstep := ovK_step (K := T.toNat + 1) (x := x) hta hfa (by omega) (by omega) (by omega)
    have hg1 := ovK_get (K := T.toNat + 1) (fs := fs) (x := x) (n := i) (t := ta) (by omega)
    have hg2 := ovK_get (K := T.toNat + 1) (fs := fs) (x := x) (n := i) (t := fa) (by omega)
    have hlen := ovK_len (K := T.toNat + 1) (fs := fs) (x := x) (n := i)
    have hr' : FRow ((b5, ABlk.cells (ints (ovK (T.toNat + 1) fs x i)) true) :: (b2, ABlk.cells [.int .i64 T, v] true) :: F) v fs := hr.cons.cons
    have hj1 : ta < (ovK (T.toNat + 1) fs x i).length := by omega
    have hj2 : fa < ((ovK (T.toNat + 1) fs x i).set ta (ov fs x i (ta : Nat) + x.getD i 0)).length := by rw [List.length_set]; omega
    have hg2' : ((ovK (T.toNat + 1) fs x i).set ta (ov fs x i (ta : Nat) + x.getD i 0)).getD fa 0 = ov fs x i (fa : Nat) := by rw [getD_set_ne (by omega)]; exact hg2
    have hx2 : ∀ {c : Nat × ABlk}, RowI (c :: (b2, ABlk.cells [.int .i64 T, v] true) :: F) xv x := fun {c} => hx.cons.cons
    have hr2 : ∀ {c : Nat × ABlk}, FRow (c :: (b2, ABlk.cells [.int .i64 T, v] true) :: F) v fs := fun {c} => hr.cons.cons
    generalize eO : ovK (T.toNat + 1) fs x i = O at *
    (repeat' (first | (first | refine Wo.nil ?_ | refine Wd.nil ?_ | ((first | refine Wo.cons ?_ | refine Wd.cons ?_); (try refine W1.go rfl rfl ?_); ((first | refine k1 ?_ | refine k2 ?_ | (refine isDst 2 ?_; refine W1.boxA rfl (fun b2 hb2 => ?_)) | (refine isDst 10 ?_; refine W1.mkslcIz (T.toNat + 1) rfl rfl (by omega) (by unfold room; omega) (fun b5 hb5 => ?_)) | (refine isDst 13 ?_; refine W1.lenI hx' rfl ?_) | (refine isDst 14 ?_; refine W1.cO ?_) | (refine isDst 21 ?_; refine W1.iaddrF i hr2 rfl rfl rfl hic (fun b o la own hm h0 h1 h2 h3 h4 h5 => ?_)) | (refine isDst 23 ?_; refine W1.load1 rfl hm h1 ?_) | (refine isDst 36 ?_; refine W1.iaddrF i hr2 rfl rfl rfl hic (fun b o la own hm h0 h1 h2 h3 h4 h5 => ?_)) | (refine isDst 38 ?_; refine W1.load1 rfl hm h0 ?_) | (refine isDst 24 ?_; refine W1.iaddrz ta rfl rfl hta (by omega) ?_) | (refine isDst 25 ?_; refine W1.loadI rfl (by omega) inF hj1 ?_; rw [hg1]) | (refine isDst 28 ?_; refine W1.iaddrI hx2 rfl rfl (by omega) (fun b o l' own hm h1 => ?_)) | (refine isDst 29 ?_; refine W1.load1 rfl hm h1 ?_) | (refine isDst 31 ?_; refine W1.iaddrz ta rfl rfl hta (by omega) ?_) | (refine isTo 31 ?_; refine W1.storeI (xs := O) rfl (by omega) rfl inU hj1 hb5 ?_) | (refine isDst 39 ?_; refine W1.iaddrz fa rfl rfl hfa (by omega) ?_) | (refine isDst 40 ?_; refine W1.loadI rfl (by omega) inF hj2 ?_; rw [hg2']) | (refine isDst 43 ?_; refine W1.iaddrI hx2 rfl rfl (by omega) (fun b o l' own hm h1 => ?_)) | (refine isDst 44 ?_; refine W1.load1 rfl hm h1 ?_) | (refine isDst 46 ?_; refine W1.iaddrz fa rfl rfl hfa (by omega) ?_) | (refine isTo 46 ?_; refine W1.storeI (xs := O.set ta (ov fs x i (ta : Nat) + x.getD i 0)) rfl (by omega) rfl inU hj2 hb5 ?_) | refine W1.auto ?_ | ((first | refine kA ?_ | refine kB ?_ | refine kC ?_ | refine kD ?_ | refine kE ?_ | refine kF ?_ | refine kG ?_); refine ⟨fun _ => ?_, fun _ => ?_⟩)) <;> (try refine ⟨fun _ => rfl, ?_⟩)))) | (first | refine Ws.seq ?_ | refine Ws.region ?_ | refine Ws.draw (fun bd hbd => ?_) | refine Ws.cond rfl ?_ | refine Ws.skip ?_ | refine Ws.scope ?_ | refine Ws.block ?_ | refine Ws.exit ?_ | refine Ws.ret ?_)))
    refine ⟨i + 1, ⟨rfl, rfl, rfl, rfl, trivial⟩, ?_, hic, by show _ - (i + 1) < _ - i; omega⟩
    rw [← hstep]
    exact List.Sublist.refl _
  · obtain rfl : i = fs.length := by omega
    (repeat' (first | (first | refine Wo.nil ?_ | refine Wd.nil ?_ | ((first | refine Wo.cons ?_ | refine Wd.cons ?_); (try refine W1.go rfl rfl ?_); ((first | refine k1 ?_ | refine k2 ?_ | (refine isDst 13 ?_; refine W1.lenI hx' rfl ?_) | (refine isDst 14 ?_; refine W1.cO ?_) | refine W1.auto ?_ | ((first | refine kA ?_ | refine kB ?_ | refine kC ?_ | refine kD ?_ | refine kE ?_ | refine kF ?_ | refine kG ?_); refine ⟨fun _ => ?_, fun _ => ?_⟩)) <;> (try refine ⟨fun _ => rfl, ?_⟩)))) | (first | refine Ws.seq ?_ | refine Ws.region ?_ | refine Ws.draw (fun bd hbd => ?_) | refine Ws.cond rfl ?_ | refine Ws.skip ?_ | refine Ws.scope ?_ | refine Ws.block ?_ | refine Ws.exit ?_ | refine Ws.ret ?_)))
    refine FnEnd.ret (F' := (b5, .cells (ints (ovK (T.toNat + 1) fs x fs.length)) true) :: F) (vs := [_]) (.tmp rfl .nil) inS ⟨b5, hb5, rfl, rfl⟩
end Go.Ax
