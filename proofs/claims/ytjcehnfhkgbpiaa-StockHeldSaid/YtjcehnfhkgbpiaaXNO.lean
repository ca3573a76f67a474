/-
  Contracts: the book: how much room a flow has, what is over, which tanks were seen.
-/
import Derived.Test.YtjcehnfhkgbpiaaXNK
namespace Go.Ax
set_option maxHeartbeats 1000000
set_option maxRecDepth 6000
set_option linter.unusedSimpArgs false
set_option linter.unusedVariables false
attribute [-simp] List.getD_eq_getElem?_getD
variable {lo : Nat} {F : Hp}
section
variable {tbl : Nat → Option AFn} {bd : Nat} {E : FE} {d : Option Nat} {R : FE → Hp → Cls → Prop}
theorem W1.slcAll {x : AO} {n sz b o : Nat} (hx : xev E x = .ptr (some (b, o))) (k : R (fput E d (.slc (some (b, o)) n n true 0)) F .n) : W1 tbl lo bd ⟨d, .slcA n sz x none none none, none⟩ E F R := by
  refine W1.val (v := .slc (some (b, o)) n n true 0) ?_ k
  simp [opLocF, hx, bounds3, bound, moved]
theorem W1.clrSI {x : AO} {z : List AV} {n cap es b o : Nat} {ex : Bool} {l l' : List AV} {F' : Hp} (hx : xev E x = .slc (some (b, o)) n cap ex es) (hn : n ≠ 0) (hl : splice l o ((List.replicate n z).flatten) = l') (hu : Upd F b (.cells l true) (.cells l' true) F') (ho : o + n * z.length ≤ l.length) (hb : lo ≤ b) (k : R (fput E d (.tup [])) F' .x) : W1 tbl lo bd ⟨d, .clrS z x, none⟩ E F R := by
  subst hl
  refine W1.wr (b := b) (f := fun
      | [.cells l true] => if o + n * z.length ≤ l.length then some (.tup [], [(b, .cells (splice l o ((List.replicate n z).flatten)) true)], none) else none
      | _ => none) ?_ hu ?_ hb k
  · simp only [opLocF, hx, if_neg hn] <;> rfl
  · dsimp only; rw [if_pos ho]
end
abbrev bookC (T : Int) (v xv : AV) (S : List Int) : List AV := .int .i64 T :: v :: xv :: ints S
theorem book_get {T : Int} {v xv : AV} {S : List Int} {o t : Nat} (ho : o = 3 + t) (ht : t < S.length) : (bookC T v xv S)[o]? = some (.int .i64 (S.getD t 0)) := by
  subst ho
  rw [show 3 + t = t + 1 + 1 + 1 by omega]
  simp only [bookC, List.getElem?_cons_succ]
  exact ints_get S ht
theorem book_set {T : Int} {v xv : AV} {S : List Int} {o t : Nat} {z : Int} (ho : o = 3 + t) (ht : t < S.length) : splice (bookC T v xv S) o [.int .i64 z] = bookC T v xv (S.set t z) := by
  subst ho
  have h := splice_ints (z := z) ht
  unfold splice at h ⊢
  rw [show 3 + t = t + 1 + 1 + 1 by omega]
  simp only [bookC, List.take_succ_cons, List.length_singleton, List.cons_append, List.cons.injEq, true_and]
  rw [show t + 1 + 1 + 1 + 1 = (t + 1) + 1 + 1 + 1 by omega]
  simp only [List.drop_succ_cons]
  exact h
theorem book_clr {T : Int} {v xv : AV} {S : List Int} (hS : S.length = 13) : splice (bookC T v xv S) 3 ((List.replicate 13 [AV.int .i64 0]).flatten) = bookC T v xv (List.replicate 13 0) := by
  rw [flatten_rep]
  unfold splice bookC
  have e : (ints (List.replicate 13 0)).length = 13 := by simp
  rw [e]
  simp [List.take_succ_cons, List.drop_succ_cons, hS]
theorem book_len {T : Int} {v xv : AV} {S : List Int} : (bookC T v xv S).length = S.length + 3 := by simp [bookC]
def toR (fs : List Fl) (i : Nat) (a : Int) : Int := if (gF fs i).f = a then (gF fs i).t else if (gF fs i).t = a then (gF fs i).f else a
theorem f82_ok {T : Int} {fs : List Fl} {x S : List Int} {v xv : AV} {bk i : Nat} {ob : Bool} {a : Int} (hN : Net T fs) (hbk : (bk, .cells (bookC T v xv S) ob) ∈ F) (hr : FRow F v fs) (hx : RowI F xv x) (hxr : inRg fs x) (hi : i < fs.length) :
    Pure tblW (fnv 82) [.ptr (some (bk, 0)), .int .i64 (i : Nat), .int .i64 a] F (rv1 (roomR fs x i a, toR fs i a)) := by
  intro lo
  refine Fn.func (fn := af82) rfl rfl ?_
  have hu := hN.u i hi
  have hxi : i < x.length := by rw [hxr.1]; exact hi
  have hxb := hxr.2 i hi
  unfold roomR toR
  by_cases h1 : (gF fs i).f = a
  · rw [if_pos h1, if_pos h1]
    (repeat' (first | (first | refine Wo.nil ?_ | refine Wd.nil ?_ | ((first | refine Wo.cons ?_ | refine Wd.cons ?_); (try refine W1.go rfl rfl ?_); ((first | refine k1 ?_ | refine k2 ?_ | (refine isDst 8 ?_; refine W1.alloc (fun b8 hb8 => ?_)) | (refine isDst 13 ?_; refine W1.load1 rfl hbk rfl ?_) | (refine isDst 15 ?_; refine W1.iaddrF i hr rfl rfl rfl hi (fun b o la own hm h0 h1 h2 h3 h4 h5 => ?_)) | (refine isDst 16 ?_; refine W1.load rfl hm h4 ?_) | (refine isDst 28 ?_; refine W1.load1 rfl (List.mem_cons_of_mem _ hbk) rfl ?_) | (refine isDst 42 ?_; refine W1.load1 rfl (List.mem_cons_of_mem _ hbk) rfl ?_) | (refine isDst 30 ?_; refine W1.iaddrI hx.cons rfl rfl hxi (fun b o l' own hm h1 => ?_)) | (refine isDst 31 ?_; refine W1.load1 rfl hm h1 ?_) | (refine isDst 44 ?_; refine W1.iaddrI hx.cons rfl rfl hxi (fun b o l' own hm h1 => ?_)) | (refine isDst 45 ?_; refine W1.load1 rfl hm h1 ?_) | (refine isDst 21 ?_; refine W1.cO ?_) | (refine isDst 38 ?_; refine W1.cO ?_) | refine W1.auto ?_) <;> (try refine ⟨fun _ => rfl, ?_⟩)))) | (first | refine Ws.seq ?_ | refine Ws.region ?_ | refine Ws.draw (fun bd hbd => ?_) | refine Ws.cond rfl ?_ | refine Ws.skip ?_ | refine Ws.scope ?_ | refine Ws.block ?_ | refine Ws.exit ?_ | refine Ws.ret ?_)))
    (refine FnEnd.ret (F' := F) (vs := [_, _]) (by (first | refine ResF.tmp inW ?_ | refine ResF.cell rfl inF inP ?_); (first | refine ResF.tmp inW ?_ | refine ResF.cell rfl inF inP ?_); exact ResF.nil) inS ⟨?_, rfl⟩)
    rfl
  · rw [if_neg h1, if_neg h1]
    by_cases h2 : (gF fs i).t = a
    · rw [if_pos h2, if_pos h2]
      (repeat' (first | (first | refine Wo.nil ?_ | refine Wd.nil ?_ | ((first | refine Wo.cons ?_ | refine Wd.cons ?_); (try refine W1.go rfl rfl ?_); ((first | refine k1 ?_ | refine k2 ?_ | (refine isDst 8 ?_; refine W1.alloc (fun b8 hb8 => ?_)) | (refine isDst 13 ?_; refine W1.load1 rfl hbk rfl ?_) | (refine isDst 15 ?_; refine W1.iaddrF i hr rfl rfl rfl hi (fun b o la own hm h0 h1 h2 h3 h4 h5 => ?_)) | (refine isDst 16 ?_; refine W1.load rfl hm h4 ?_) | (refine isDst 28 ?_; refine W1.load1 rfl (List.mem_cons_of_mem _ hbk) rfl ?_) | (refine isDst 42 ?_; refine W1.load1 rfl (List.mem_cons_of_mem _ hbk) rfl ?_) | (refine isDst 30 ?_; refine W1.iaddrI hx.cons rfl rfl hxi (fun b o l' own hm h1 => ?_)) | (refine isDst 31 ?_; refine W1.load1 rfl hm h1 ?_) | (refine isDst 44 ?_; refine W1.iaddrI hx.cons rfl rfl hxi (fun b o l' own hm h1 => ?_)) | (refine isDst 45 ?_; refine W1.load1 rfl hm h1 ?_) | (refine isDst 21 ?_; refine W1.cO ?_) | (refine isDst 38 ?_; refine W1.cO ?_) | refine W1.auto ?_) <;> (try refine ⟨fun _ => rfl, ?_⟩)))) | (first | refine Ws.seq ?_ | refine Ws.region ?_ | refine Ws.draw (fun bd hbd => ?_) | refine Ws.cond rfl ?_ | refine Ws.skip ?_ | refine Ws.scope ?_ | refine Ws.block ?_ | refine Ws.exit ?_ | refine Ws.ret ?_)))
      (refine FnEnd.ret (F' := F) (vs := [_, _]) (by (first | refine ResF.tmp inW ?_ | refine ResF.cell rfl inF inP ?_); (first | refine ResF.tmp inW ?_ | refine ResF.cell rfl inF inP ?_); exact ResF.nil) inS ⟨?_, rfl⟩)
      rfl
    · rw [if_neg h2, if_neg h2]
      (repeat' (first | (first | refine Wo.nil ?_ | refine Wd.nil ?_ | ((first | refine Wo.cons ?_ | refine Wd.cons ?_); (try refine W1.go rfl rfl ?_); ((first | refine k1 ?_ | refine k2 ?_ | (refine isDst 8 ?_; refine W1.alloc (fun b8 hb8 => ?_)) | (refine isDst 13 ?_; refine W1.load1 rfl hbk rfl ?_) | (refine isDst 15 ?_; refine W1.iaddrF i hr rfl rfl rfl hi (fun b o la own hm h0 h1 h2 h3 h4 h5 => ?_)) | (refine isDst 16 ?_; refine W1.load rfl hm h4 ?_) | (refine isDst 28 ?_; refine W1.load1 rfl (List.mem_cons_of_mem _ hbk) rfl ?_) | (refine isDst 42 ?_; refine W1.load1 rfl (List.mem_cons_of_mem _ hbk) rfl ?_) | (refine isDst 30 ?_; refine W1.iaddrI hx.cons rfl rfl hxi (fun b o l' own hm h1 => ?_)) | (refine isDst 31 ?_; refine W1.load1 rfl hm h1 ?_) | (refine isDst 44 ?_; refine W1.iaddrI hx.cons rfl rfl hxi (fun b o l' own hm h1 => ?_)) | (refine isDst 45 ?_; refine W1.load1 rfl hm h1 ?_) | (refine isDst 21 ?_; refine W1.cO ?_) | (refine isDst 38 ?_; refine W1.cO ?_) | refine W1.auto ?_) <;> (try refine ⟨fun _ => rfl, ?_⟩)))) | (first | refine Ws.seq ?_ | refine Ws.region ?_ | refine Ws.draw (fun bd hbd => ?_) | refine Ws.cond rfl ?_ | refine Ws.skip ?_ | refine Ws.scope ?_ | refine Ws.block ?_ | refine Ws.exit ?_ | refine Ws.ret ?_)))
      (refine FnEnd.ret (F' := F) (vs := [_, _]) (by (first | refine ResF.tmp inW ?_ | refine ResF.cell rfl inF inP ?_); (first | refine ResF.tmp inW ?_ | refine ResF.cell rfl inF inP ?_); exact ResF.nil) inS ⟨?_, rfl⟩)
      rfl
theorem f74_ok {T : Int} {fs : List Fl} {x S : List Int} {v xv : AV} {bk : Nat} {ob : Bool} (hN : Net T fs) (hbk : (bk, .cells (bookC T v xv S) ob) ∈ F) (hr : FRow F v fs) (hx : RowI F xv x) (hxr : inRg fs x) :
    Pure tblW (fnv 74) [.ptr (some (bk, 0))] F (.agg (ints (ovK 13 fs x fs.length))) := by
  intro lo
  refine Fn.func (fn := af74) rfl rfl ?_
  have hn := hN.n
  have hT := hN.t
  have hxb := hxr.nn hN
  have hxl := hxr.1
  (repeat' (first | (first | refine Wo.nil ?_ | refine Wd.nil ?_ | ((first | refine Wo.cons ?_ | refine Wd.cons ?_); (try refine W1.go rfl rfl ?_); ((first | refine k1 ?_ | refine k2 ?_ | (refine isDst 2 ?_; refine W1.alloc (fun b2 hb2 => ?_)) | (refine isDst 3 ?_; refine W1.alloc (fun b3 hb3 => ?_)) | (refine isDst 5 ?_; refine W1.alloc (fun b5 hb5 => ?_)) | (refine isDst 10 ?_; refine W1.load1 rfl (List.mem_cons_of_mem _ (List.mem_cons_of_mem _ hbk)) rfl ?_) | (refine isDst 11 ?_; refine W1.lenZ hr.cons.cons rfl ?_) | refine W1.auto ?_) <;> (try refine ⟨fun _ => rfl, ?_⟩)))) | (first | refine Ws.seq ?_ | refine Ws.region ?_ | refine Ws.draw (fun bd hbd => ?_) | refine Ws.cond rfl ?_ | refine Ws.skip ?_ | refine Ws.scope ?_ | refine Ws.block ?_ | refine Ws.exit ?_ | refine Ws.ret ?_)))
  refine Ws.fresh (l := (12, .int .i64 0) :: [(0, .ptr (some (bk, 0))), (2, .ptr (some (b2, 0))), (3, .ptr (some (b3, 0))), (10, v), (11, .int .i64 fs.length)]) ⟨rfl, rfl, rfl, rfl, rfl, rfl, trivial⟩ (fun B => ?_)
  refine Ws.loopG (X := Nat) (fun i => (12, .int .i64 (i : Nat)) :: [(0, .ptr (some (bk, 0))), (2, .ptr (some (b2, 0))), (3, .ptr (some (b3, 0))), (10, v), (11, .int .i64 fs.length)]) (fun i => (b3, ABlk.cells (ints (ovK 13 fs x i)) true) :: (b2, ABlk.cells (ints (List.replicate 13 0)) true) :: F) (fun i => i ≤ fs.length) (fun i => fs.length - i) 0 ⟨rfl, rfl, rfl, rfl, rfl, rfl, trivial⟩ (by rw [ovK_zero]; exact List.Sublist.refl _) (Nat.zero_le _) ?_
  rintro i B2 hi
  by_cases hic : i < fs.length
  · have hu := hN.u i hic
    have hxi := hxb i hic
    obtain ⟨ta, hta⟩ : ∃ ta : Nat, (gF fs i).t = (ta : Nat) := ⟨(gF fs i).t.toNat, by omega⟩
    obtain ⟨fa, hfa⟩ : ∃ fa : Nat, (gF fs i).f = (fa : Nat) := ⟨(gF fs i).f.toNat, by omega⟩
    have hov1 := ov_in (fs := fs) (t := (ta : Nat)) (n := i) fun j hj => hxb j (by omega)
    have hov2 := ov_in (fs := fs) (t := (fa : Nat)) (n := i) fun j hj => hxb j (by omega)
    have hstep := ovK_step (K := 13) (x := x) hta hfa (by omega) (by omega) (by omega)
    have hg1 := ovK_get (K := 13) (fs := fs) (x := x) (n := i) (t := ta) (by omega)
    have hg2 := ovK_get (K := 13) (fs := fs) (x := x) (n := i) (t := fa) (by omega)
    have hlen := ovK_len (K := 13) (fs := fs) (x := x) (n := i)
    have hr' : FRow ((b3, ABlk.cells (ints (ovK 13 fs x i)) true) :: (b2, ABlk.cells (ints (List.replicate 13 0)) true) :: F) v fs := hr.cons.cons
    have hj1 : ta < (ovK 13 fs x i).length := by omega
    have hj2 : fa < ((ovK 13 fs x i).set ta (ov fs x i (ta : Nat) + x.getD i 0)).length := by rw [List.length_set]; omega
    have hg2' : ((ovK 13 fs x i).set ta (ov fs x i (ta : Nat) + x.getD i 0)).getD fa 0 = ov fs x i (fa : Nat) := by rw [getD_set_ne (by omega)]; exact hg2
    have hx2 : ∀ {c d e : Nat × ABlk}, RowI (c :: d :: e :: F) xv x := fun {c d e} => hx.cons.cons.cons
    have hb2 : ∀ c d e : Nat × ABlk, (bk, ABlk.cells (bookC T v xv S) ob) ∈ c :: d :: e :: F := fun c d e => List.mem_cons_of_mem _ (List.mem_cons_of_mem _ (List.mem_cons_of_mem _ hbk))
    generalize eO : ovK 13 fs x i = O at *
    (repeat' (first | (first | refine Wo.nil ?_ | refine Wd.nil ?_ | ((first | refine Wo.cons ?_ | refine Wd.cons ?_); (try refine W1.go rfl rfl ?_); ((first | refine k1 ?_ | refine k2 ?_ | (refine isDst 2 ?_; refine W1.alloc (fun b2 hb2 => ?_)) | (refine isDst 3 ?_; refine W1.alloc (fun b3 hb3 => ?_)) | (refine isDst 5 ?_; refine W1.alloc (fun b5 hb5 => ?_)) | (refine isDst 13 ?_; refine W1.cO ?_) | (refine isDst 15 ?_; refine W1.iaddrF i hr' rfl rfl rfl hic (fun b o la own hm h0 h1 h2 h3 h4 h5 => ?_)) | (refine isDst 16 ?_; refine W1.load rfl hm h4 ?_) | (refine isDst 19 ?_; refine W1.iaddrA ta rfl rfl hta (by omega) ?_) | (refine isDst 20 ?_; refine W1.loadI rfl (by omega) inF hj1 ?_; rw [hg1]) | (refine isDst 24 ?_; refine W1.load1 rfl (hb2 _ _ _) rfl ?_) | (refine isDst 26 ?_; refine W1.iaddrI hx2 rfl rfl (by omega) (fun b o l' own hm h1 => ?_)) | (refine isDst 27 ?_; refine W1.load1 rfl hm h1 ?_) | (refine isDst 29 ?_; refine W1.iaddrA ta rfl rfl hta (by omega) ?_) | (refine isTo 29 ?_; refine W1.storeI (xs := O) rfl (by omega) rfl inU hj1 hb3 ?_) | (refine isDst 32 ?_; refine W1.iaddrA fa rfl rfl hfa (by omega) ?_) | (refine isDst 33 ?_; refine W1.loadI rfl (by omega) inF hj2 ?_; rw [hg2']) | (refine isDst 37 ?_; refine W1.load1 rfl (hb2 _ _ _) rfl ?_) | (refine isDst 39 ?_; refine W1.iaddrI hx2 rfl rfl (by omega) (fun b o l' own hm h1 => ?_)) | (refine isDst 40 ?_; refine W1.load1 rfl hm h1 ?_) | (refine isDst 42 ?_; refine W1.iaddrA fa rfl rfl hfa (by omega) ?_) | (refine isTo 42 ?_; refine W1.storeI (xs := O.set ta (ov fs x i (ta : Nat) + x.getD i 0)) rfl (by omega) rfl inU hj2 hb3 ?_) | refine W1.auto ?_) <;> (try refine ⟨fun _ => rfl, ?_⟩)))) | (first | refine Ws.seq ?_ | refine Ws.region ?_ | refine Ws.draw (fun bd hbd => ?_) | refine Ws.cond rfl ?_ | refine Ws.skip ?_ | refine Ws.scope ?_ | refine Ws.block ?_ | refine Ws.exit ?_ | refine Ws.ret ?_)))
    refine ⟨i + 1, ⟨rfl, rfl, rfl, rfl, rfl, rfl, trivial⟩, ?_, hic, by show _ - (i + 1) < _ - i; omega⟩
    rw [← hstep]
    exact .cons _ (List.Sublist.refl _)
  · obtain rfl : i = fs.length := by omega
    (repeat' (first | (first | refine Wo.nil ?_ | refine Wd.nil ?_ | ((first | refine Wo.cons ?_ | refine Wd.cons ?_); (try refine W1.go rfl rfl ?_); ((first | refine k1 ?_ | refine k2 ?_ | (refine isDst 13 ?_; refine W1.cO ?_) | (refine isDst 44 ?_; refine W1.loadA rfl (List.mem_cons_self ..) (by simp [ovK_len]) ?_) | (refine isTo 2 ?_; refine W1.storeN (cs := ints (ovK 13 fs x fs.length)) (l := ints (List.replicate 13 0)) (l' := ints (ovK 13 fs x fs.length)) rfl rfl (by simp [ovK_len]) (List.mem_cons_of_mem _ (List.mem_cons_self ..)) (by unfold splice; simp [ovK_len]) inU (by simp) hb2 ?_) | refine W1.auto ?_) <;> (try refine ⟨fun _ => rfl, ?_⟩)))) | (first | refine Ws.seq ?_ | refine Ws.region ?_ | refine Ws.draw (fun bd hbd => ?_) | refine Ws.cond rfl ?_ | refine Ws.skip ?_ | refine Ws.scope ?_ | refine Ws.block ?_ | refine Ws.exit ?_ | refine Ws.ret ?_)))
    refine FnEnd.ret (F' := F) (vs := [_]) (.cell rfl (List.mem_cons_of_mem _ (List.mem_cons_self ..)) (v := .agg (ints (ovK 13 fs x fs.length))) ?_ .nil) inS ⟨rfl, rfl⟩
    simp [partC, ovK_len]
    exact List.take_of_length_le (by simp [ovK_len])
end Go.Ax
