/-
  Contracts: what a book tells, a new book.
-/
import Derived.Test.YtjcehnfhkgbpiaaXNP
namespace Go.Ax
set_option maxHeartbeats 1000000
set_option maxRecDepth 6000
set_option linter.unusedSimpArgs false
set_option linter.unusedVariables false
attribute [-simp] List.getD_eq_getElem?_getD
variable {lo : Nat} {F : Hp}
section
variable {tbl : Nat → Option AFn} {bd : Nat} {E : FE} {d : Option Nat} {R : FE → Hp → Cls → Prop} {x y : AO}
theorem W1.eqnS {neg : Bool} {p : Nat × Nat} {n1 c1 s1 n2 c2 s2 : Nat} {e1 e2 : Bool} (hx : xev E x = .slc (some p) n1 c1 e1 s1) (hy : xev E y = .slc none n2 c2 e2 s2) (k : R (fput E d (.bool (false != neg))) F .n) : W1 tbl lo bd ⟨d, .eqn neg 0 x y, none⟩ E F R :=
  W1.val (v := .bool (false != neg)) (by simp only [opLocF, hx, hy, eqNil]; rfl) k
theorem W1.eqnN {neg : Bool} {n1 c1 s1 n2 c2 s2 : Nat} {e1 e2 : Bool} (hx : xev E x = .slc none n1 c1 e1 s1) (hy : xev E y = .slc none n2 c2 e2 s2) (k : R (fput E d (.bool (true != neg))) F .n) : W1 tbl lo bd ⟨d, .eqn neg 0 x y, none⟩ E F R :=
  W1.val (v := .bool (true != neg)) (by simp only [opLocF, hx, hy, eqNil]; rfl) k
end
theorem f81_nil : Fn tblW lo (fnv 81) [AV.slc none 0 0 true 0] F (fun r F' => ∃ Fo, OwnI lo false r Fo [] ∧ F' = Fo ++ F) := by
  refine Fn.func (fn := af81) rfl rfl ?_
  (repeat' (first | (first | refine Wo.nil ?_ | refine Wd.nil ?_ | ((first | refine Wo.cons ?_ | refine Wd.cons ?_); (try refine W1.go rfl rfl ?_); ((first | refine k1 ?_ | refine k2 ?_ | refine W1.eqnN rfl rfl ?_ | refine W1.auto ?_) <;> (try refine ⟨fun _ => rfl, ?_⟩)))) | (first | refine Ws.seq ?_ | refine Ws.region ?_ | refine Ws.draw (fun bd hbd => ?_) | refine Ws.cond rfl ?_ | refine Ws.skip ?_ | refine Ws.scope ?_ | refine Ws.block ?_ | refine Ws.exit ?_ | refine Ws.ret ?_)))
  exact FnEnd.ret (F' := F) (vs := [_]) (.tmp rfl .nil) (List.Sublist.refl _) ⟨[], .nil, rfl⟩
theorem f81_row {x : List Int} {v : AV} (hr : RowI F v x) (h0 : 0 < x.length) (hl : x.length < 100000000) : Fn tblW lo (fnv 81) [v] F (fun r F' => ∃ Fo, OwnI lo false r Fo x ∧ F' = Fo ++ F) := by
  refine Fn.func (fn := af81) rfl rfl ?_
  have hr2 := hr
  obtain ⟨p, cap, ex, es, rfl, hj⟩ := hr
  obtain ⟨b, o, _, _, rfl, _, _⟩ := hj 0 h0
  (repeat' (first | (first | refine Wo.nil ?_ | refine Wd.nil ?_ | ((first | refine Wo.cons ?_ | refine Wd.cons ?_); (try refine W1.go rfl rfl ?_); ((first | refine k1 ?_ | refine k2 ?_ | refine W1.eqnS rfl rfl ?_ | (refine isDst 5 ?_; refine W1.bslice (l := ([] : List Int).map (.int .i64)) rfl (fun b5 hb5 => ?_)) | (refine isDst 7 ?_; refine W1.appRowI (as := []) (xs := x) rfl (List.mem_cons_self ..) rfl hr2.cons rfl h0 (by simp; omega) (fun b7 hb7 => ?_)) | refine W1.auto ?_) <;> (try refine ⟨fun _ => rfl, ?_⟩)))) | (first | refine Ws.seq ?_ | refine Ws.region ?_ | refine Ws.draw (fun bd hbd => ?_) | refine Ws.cond rfl ?_ | refine Ws.skip ?_ | refine Ws.scope ?_ | refine Ws.block ?_ | refine Ws.exit ?_ | refine Ws.ret ?_)))
  rw [List.nil_append]
  exact FnEnd.ret (F' := (b7, .cells (x.map (.int .i64)) true) :: F) (vs := [_]) (.tmp rfl .nil) (.cons_cons _ (.cons _ (List.Sublist.refl _))) ⟨[_], .row hb7, rfl⟩
structure Lit' (F : Hp) (xv : AV) (x : List Int) : Prop where
  r : RowI F xv x
  z : x = [] → xv = AV.slc none 0 0 true 0
theorem OwnI.lit {ex : Bool} {xv : AV} {Fo : Hp} {x : List Int} (h : OwnI lo ex xv Fo x) (hx : x = [] → Fo = []) (hs : Fo ⊆ F) : Lit' F xv x := by
  refine ⟨h.rowI hs, fun he => ?_⟩
  have := hx he
  cases h with
  | nil => rfl
  | row => cases this
theorem f81_ok {x : List Int} {v : AV} (hr : Lit' F v x) (hl : x.length < 100000000) : Fn tblW lo (fnv 81) [v] F (fun r F' => ∃ Fo, OwnI lo false r Fo x ∧ F' = Fo ++ F) := by
  rcases x with _ | ⟨a, x⟩
  · rw [hr.z rfl]; exact f81_nil
  · exact f81_row hr.r (by simp) hl
theorem f57_ok {T : Int} {x S : List Int} {v xv : AV} {bk : Nat} {ob : Bool} (hbk : (bk, .cells (bookC T v xv S) ob) ∈ F) (hr : Lit' F xv x) (hl : x.length < 100000000) : Fn tblW lo (fnv 57) [.ptr (some (bk, 0))] F (fun r F' => ∃ Fo, OwnI lo false r Fo x ∧ F' = Fo ++ F) := by
  refine Fn.func (fn := af57) rfl rfl ?_
  (repeat' (first | (first | refine Wo.nil ?_ | refine Wd.nil ?_ | ((first | refine Wo.cons ?_ | refine Wd.cons ?_); (try refine W1.go rfl rfl ?_); ((first | refine k1 ?_ | refine k2 ?_ | (refine isDst 6 ?_; refine W1.load1 rfl hbk rfl ?_) | (refine isDst 7 ?_; refine W1.callM rfl rfl ((f81_ok hr hl).mono ?_); rintro _ _ ⟨Fo, ho, rfl⟩) | refine W1.auto ?_) <;> (try refine ⟨fun _ => rfl, ?_⟩)))) | (first | refine Ws.seq ?_ | refine Ws.region ?_ | refine Ws.draw (fun bd hbd => ?_) | refine Ws.cond rfl ?_ | refine Ws.skip ?_ | refine Ws.scope ?_ | refine Ws.block ?_ | refine Ws.exit ?_ | refine Ws.ret ?_)))
  exact FnEnd.ret (F' := Fo ++ F) (vs := [_]) (.tmp rfl .nil) (List.Sublist.refl _) ⟨Fo, ho, rfl⟩
theorem f55_ok {T : Int} {fs : List Fl} {v : AV} (hr : FRow F v fs) (hl : fs.length ≤ 1000) : Fn tblW lo (fnv 55) [netV T v] F (fun r F' => ∃ bk xv Fo, lo ≤ bk ∧ r = .ptr (some (bk, 0)) ∧ OwnI lo false xv Fo (fs.map (·.lo)) ∧ (fs = [] → Fo = []) ∧ F' = Fo ++ ((bk, .cells (bookC T v xv (List.replicate 13 (0 : Int))) true) :: F)) := by
  refine Fn.func (fn := af55) rfl rfl ?_
  (repeat' (first | (first | refine Wo.nil ?_ | refine Wd.nil ?_ | ((first | refine Wo.cons ?_ | refine Wd.cons ?_); (try refine W1.go rfl rfl ?_); ((first | refine k1 ?_ | refine k2 ?_ | (refine isDst 1 ?_; refine W1.boxA rfl (fun b1 hb1 => ?_)) | (refine isDst 7 ?_; refine W1.build (l := bookC T v AV.slc none 0 0 true 0 (List.replicate 13 (0 : Int))) rfl ?_) | (refine isDst 8 ?_; refine W1.boxA rfl (fun b8 hb8 => ?_)) | (refine isDst 5 ?_; refine W1.alloc (fun b5 hb5 => ?_)) | (refine isDst 11 ?_; refine W1.lenZ hr.cons.cons rfl ?_) | refine W1.auto ?_) <;> (try refine ⟨fun _ => rfl, ?_⟩)))) | (first | refine Ws.seq ?_ | refine Ws.region ?_ | refine Ws.draw (fun bd hbd => ?_) | refine Ws.cond rfl ?_ | refine Ws.skip ?_ | refine Ws.scope ?_ | refine Ws.block ?_ | refine Ws.exit ?_ | refine Ws.ret ?_)))
  refine Ws.fresh (l := (12, .int .i64 0) :: [(3, .ptr (some (b8, 0))), (10, v), (11, .int .i64 fs.length)]) ⟨rfl, rfl, rfl, rfl, trivial⟩ (fun B => ?_)
  refine Ws.loopG (X := Nat × AV × Hp) (fun x => (12, .int .i64 (x.1 : Nat)) :: [(3, .ptr (some (b8, 0))), (10, v), (11, .int .i64 fs.length)]) (fun x => x.2.2 ++ ((b8, .cells (bookC T v x.2.1 (List.replicate 13 (0 : Int))) true) :: F)) (fun x => x.1 ≤ fs.length ∧ OwnI lo false x.2.1 x.2.2 ((fs.take x.1).map (·.lo)) ∧ (x.1 = 0 → x.2.2 = [])) (fun x => fs.length - x.1) (0, AV.slc none 0 0 true 0, []) ⟨rfl, rfl, rfl, rfl, trivial⟩ inS ⟨Nat.zero_le _, .nil, fun _ => rfl⟩ ?_
  rintro ⟨i, xv, Fo⟩ B2 ⟨hi, ho, hz⟩
  have hi : i ≤ fs.length := hi
  have ho : OwnI lo false xv Fo ((fs.take i).map (·.lo)) := ho
  dsimp only
  by_cases hic : i < fs.length
  · have hlt : ((fs.take i).map (·.lo)).length < 1000000000000 := by rw [List.length_map, List.length_take]; omega
    have hr' : FRow (F := Fo ++ ((b8, .cells (bookC T v xv (List.replicate 13 (0 : Int))) true) :: F)) v fs := hr.cons.app
    have m8 : ∀ c : Nat × ABlk, (b8, ABlk.cells (bookC T v xv (List.replicate 13 (0 : Int))) true) ∈ c :: (Fo ++ ((b8, .cells (bookC T v xv (List.replicate 13 (0 : Int))) true) :: F)) := fun c => List.mem_cons_of_mem _ (List.mem_append_right _ (List.mem_cons_self ..))
    (repeat' (first | (first | refine Wo.nil ?_ | refine Wd.nil ?_ | ((first | refine Wo.cons ?_ | refine Wd.cons ?_); (try refine W1.go rfl rfl ?_); ((first | refine k1 ?_ | refine k2 ?_ | (refine isDst 1 ?_; refine W1.boxA rfl (fun b1 hb1 => ?_)) | (refine isDst 7 ?_; refine W1.build (l := bookC T v AV.slc none 0 0 true 0 (List.replicate 13 (0 : Int))) rfl ?_) | (refine isDst 8 ?_; refine W1.boxA rfl (fun b8 hb8 => ?_)) | (refine isDst 5 ?_; refine W1.alloc (fun b5 hb5 => ?_)) | (refine isDst 13 ?_; refine W1.cO ?_) | (refine isDst 14 ?_; refine W1.iaddrF i hr' rfl rfl rfl hic (fun b o la own hm h0 h1 h2 h3 h4 h5 => ?_)) | (refine isDst 15 ?_; refine W1.load rfl hm h4 ?_) | (refine isDst 20 ?_; refine W1.load1R rfl (m8 _) rfl (ltAll (by assumption) (m8 _)) ?_) | (refine isDst 23 ?_; refine W1.load1 rfl (List.mem_cons_self ..) rfl ?_) | (refine isDst 24 ?_; refine W1.bslice (l := [.int .i64 (gF fs i).lo]) (fill_all (catF1 rfl rfl catF0) rfl) (fun b24 hb24 => ?_)) | (refine isDst 25 ?_; refine W1.appI (F1 := [_, _]) rfl ho rfl rfl (List.mem_cons_self ..) hlt (fun w Fw hw => ?_); simp only [List.cons_append, List.nil_append]) | (refine isTo 27 ?_; refine W1.storeN (cs := [w]) (l := bookC T v xv (List.replicate 13 (0 : Int))) (l' := bookC T v w (List.replicate 13 (0 : Int))) rfl hw.cells rfl (List.mem_append_right _ (List.mem_cons_of_mem _ (List.mem_cons_of_mem _ (List.mem_cons_self ..)))) rfl inU (by simp) hb8 ?_) | refine W1.auto ?_) <;> (try refine ⟨fun _ => rfl, ?_⟩)))) | (first | refine Ws.seq ?_ | refine Ws.region ?_ | refine Ws.draw (fun bd hbd => ?_) | refine Ws.cond rfl ?_ | refine Ws.skip ?_ | refine Ws.scope ?_ | refine Ws.block ?_ | refine Ws.exit ?_ | refine Ws.ret ?_)))
    refine ⟨(i + 1, w, Fw), ⟨rfl, rfl, rfl, rfl, trivial⟩, ?_, ⟨hic, ?_, fun h => by cases h⟩, by show _ - (i + 1) < _ - i; omega⟩
    · exact List.Sublist.append (List.Sublist.refl _) (.cons _ (.cons _ (List.Sublist.refl _)))
    · show OwnI lo false w Fw ((fs.take (i + 1)).map (·.lo))
      rw [take_snoc hic, List.map_append]
      exact hw
  · obtain rfl : i = fs.length := by omega
    rw [List.take_length] at ho
    (repeat' (first | (first | refine Wo.nil ?_ | refine Wd.nil ?_ | ((first | refine Wo.cons ?_ | refine Wd.cons ?_); (try refine W1.go rfl rfl ?_); ((first | refine k1 ?_ | refine k2 ?_ | (refine isDst 13 ?_; refine W1.cO ?_) | refine W1.auto ?_) <;> (try refine ⟨fun _ => rfl, ?_⟩)))) | (first | refine Ws.seq ?_ | refine Ws.region ?_ | refine Ws.draw (fun bd hbd => ?_) | refine Ws.cond rfl ?_ | refine Ws.skip ?_ | refine Ws.scope ?_ | refine Ws.block ?_ | refine Ws.exit ?_ | refine Ws.ret ?_)))
    refine FnEnd.ret (F' := Fo ++ ((b8, .cells (bookC T v xv (List.replicate 13 (0 : Int))) true) :: F)) (vs := [_]) (.tmp rfl .nil) (List.Sublist.refl _) ⟨b8, xv, Fo, hb8, rfl, ho, fun h => hz (by rw [h]; rfl), rfl⟩
end Go.Ax
