/-
  Contracts: a flow is stretched.
-/
import Derived.Test.YtjcehnfhkgbpiaaXNY
namespace Go.Ax
set_option maxHeartbeats 1000000
set_option maxRecDepth 6000
set_option linter.unusedSimpArgs false
set_option linter.unusedVariables false
attribute [-simp] List.getD_eq_getElem?_getD
variable {lo : Nat} {F : Hp}
theorem Fn.bound {g : Nat} {p : AV} {l : List AV} {Q : AV → Hp → Prop} (h : Fn tblW lo (fnv g) (p :: l) F Q) : Fn tblW lo (.fn (.func g) [p] []) l F Q := ⟨fun h0 a b c => by
  obtain ⟨n, hn⟩ := h.run h0 a b c
  exact ⟨n, hn⟩⟩
theorem stretch_step {T : Int} {fs : List Fl} {x x' : List Int} {k : Nat} {m : Int} {high : Bool} (hN : Net T fs) (hk : k < fs.length) (h : IsT T fs x) (hr : inRg fs x') (hm : 0 < m) (hml : m ≤ bif high then (gF fs k).hi - x.getD k 0 else x.getD k 0 - (gF fs k).lo)
    (ho : ∀ t, ov fs x' fs.length t = ov fs x fs.length t + (if t = (bif high then (gF fs k).f else (gF fs k).t) then m else 0) - (if t = (bif high then (gF fs k).t else (gF fs k).f) then m else 0)) (hb : x'.getD k 0 = x.getD k 0) :
    IsT T fs (x'.set k (bif high then x'.getD k 0 + m else x'.getD k 0 - m)) := by
  have hkl : k < x'.length := by rw [hr.1]; exact hk
  have hxr := hr.2 k hk
  have hu := hN.u k hk
  refine ⟨⟨by rw [List.length_set]; exact hr.1, fun i hi => ?_⟩, fun t h1 h2 => ?_⟩
  · rw [getD_setI hkl]
    by_cases e : i = k
    · subst e
      rw [if_pos rfl]
      cases high <;> simp only [cond_true, cond_false] at hml ⊢ <;> omega
    · rw [if_neg e]; exact hr.2 i hi
  · have h0 := h.o t h1 h2
    have ho' := ho t
    cases high with
    | true =>
      have e1 : push1 fs m x' (k, (gF fs k).f) = x'.set k (x'.getD k 0 + m) := by unfold push1; rw [if_pos rfl]
      have := push1_ov (m := m) (x := x') (h := (k, (gF fs k).f)) (t := t) hr.1 hN.ne hk (.inl rfl)
      rw [e1] at this
      have e2 : oth fs k (gF fs k).f = (gF fs k).t := if_pos rfl
      simp only [cond_true] at ho' ⊢
      simp only [e2] at this
      rw [this]; omega
    | false =>
      have e1 : push1 fs m x' (k, (gF fs k).t) = x'.set k (x'.getD k 0 - m) := by unfold push1; rw [if_neg hu.2.2.2.2.1]
      have := push1_ov (m := m) (x := x') (h := (k, (gF fs k).t)) (t := t) hr.1 hN.ne hk (.inr rfl)
      rw [e1] at this
      have e2 : oth fs k (gF fs k).t = (gF fs k).f := if_neg hu.2.2.2.2.1
      simp only [cond_false] at ho' ⊢
      simp only [e2] at this
      rw [this]; omega
inductive StrR (lo : Nat) (T : Int) (fs : List Fl) (k : Nat) (high : Bool) (x : List Int) : AV → Hp → Prop
  | own (h : x.getD k 0 = bif high then (gF fs k).hi else (gF fs k).lo) : StrR lo T fs k high x (.slc none 0 0 true 0) []
  | set {r : AV} {Fo : Hp} {p : Int → Bool} (ho : OwnI lo false r Fo (pickL T p)) (h1 : p (gF fs k).f = true) (h2 : p (gF fs k).t = false) (h : bndS fs k high p = x.getD k 0) : StrR lo T fs k high x r Fo
def toB (z t : Int) : Bool := decide (t = z)
theorem f83_ok {z t : Int} {b : Nat} {ob : Bool} (hm : (b, .cells [.int .i64 z] ob) ∈ F) : Pure tblW (.fn (.func 83) [] [.ptr (some (b, 0))]) [.int .i64 t] F (.bool (toB z t)) := by
  intro lo
  refine Fn.func (fn := af83) rfl rfl ?_
  (repeat' (first | (first | refine Wo.nil ?_ | refine Wd.nil ?_ | ((first | refine Wo.cons ?_ | refine Wd.cons ?_); (try refine W1.go rfl rfl ?_); ((first | refine k1 ?_ | refine k2 ?_ | (refine isDst 5 ?_; refine W1.load1 rfl hm rfl ?_) | refine W1.auto ?_ | ((first | refine kA ?_ | refine kB ?_ | refine kC ?_ | refine kD ?_ | refine kE ?_ | refine kF ?_ | refine kG ?_); refine ⟨fun _ => ?_, fun _ => ?_⟩)) <;> (try refine ⟨fun _ => rfl, ?_⟩)))) | (first | refine Ws.seq ?_ | refine Ws.region ?_ | refine Ws.draw (fun bd hbd => ?_) | refine Ws.cond rfl ?_ | refine Ws.skip ?_ | refine Ws.scope ?_ | refine Ws.block ?_ | refine Ws.exit ?_ | refine Ws.ret ?_)))
  all_goals (refine FnEnd.ret (F' := F) (vs := [_]) (by (first | refine ResF.tmp inW ?_ | refine ResF.cell rfl inF inP ?_); exact ResF.nil) inS ⟨?_, rfl⟩)
  all_goals (simp only [toB]; (simp only [tupOf, AV.bool.injEq]; symm; first | (apply decide_eq_true; omega) | (apply decide_eq_false; omega)))
theorem f60_true {T : Int} {fs : List Fl} {x S : List Int} {k : Nat} {v : AV} {bk bx : Nat} (hN : Net T fs) (hr : FRow F v fs) (hT' : IsT T fs x) (hbk : lo ≤ bk) (hbx : lo ≤ bx) (hS : S.length = 13) (hk : k < fs.length) :
    Fn tblW lo (fnv 60) [.ptr (some (bk, 0)), .int .i64 (k : Nat), .bool true] ((bk, .cells (bookC T v (AV.slc (some (bx, 0)) fs.length fs.length false 1) S) true) :: (bx, .cells (ints x) true) :: F)
      (fun r F' => ∃ x' S' Fo, IsT T fs x' ∧ S'.length = 13 ∧ StrR lo T fs k true x' r Fo ∧ F' = Fo ++ ((bk, .cells (bookC T v (AV.slc (some (bx, 0)) fs.length fs.length false 1) S') true) :: (bx, .cells (ints x') true) :: F)) := by
  refine Fn.func (fn := af60) rfl rfl ?_
  have hn := hN.n
  have hT := hN.t
  have hu := hN.u k hk
  (repeat' (first | (first | refine Wo.nil ?_ | refine Wd.nil ?_ | ((first | refine Wo.cons ?_ | refine Wd.cons ?_); (try refine W1.go rfl rfl ?_); ((first | refine k1 ?_ | refine k2 ?_ | (refine isDst 19 ?_; refine W1.load1 rfl (List.mem_cons_self ..) rfl ?_) | (refine isDst 21 ?_; refine W1.iaddrF k hr.cons.cons rfl rfl rfl hk (fun b o la own hm h0 h1 h2 h3 h4 h5 => ?_)) | (refine isDst 22 ?_; refine W1.load rfl hm h4 ?_) | (refine isDst 7 ?_; refine W1.alloc (fun b7 hb7 => ?_)) | refine W1.auto ?_ | ((first | refine kA ?_ | refine kB ?_ | refine kC ?_ | refine kD ?_ | refine kE ?_ | refine kF ?_ | refine kG ?_); refine ⟨fun _ => ?_, fun _ => ?_⟩)) <;> (try refine ⟨fun _ => rfl, ?_⟩)))) | (first | refine Ws.seq ?_ | refine Ws.region ?_ | refine Ws.draw (fun bd hbd => ?_) | refine Ws.cond rfl ?_ | refine Ws.skip ?_ | refine Ws.scope ?_ | refine Ws.block ?_ | refine Ws.exit ?_ | refine Ws.ret ?_)))
  refine Ws.fresh (l := [(0, .ptr (some (bk, 0))), (1, .int .i64 (k : Nat)), (2, .bool true), (7, .ptr (some (b7, 0))), (8, .fn (.func 82) [.ptr (some (bk, 0))] [])]) ⟨rfl, rfl, rfl, rfl, rfl, trivial⟩ (fun B => ?_)
  refine Ws.perm (F' := (bk, .cells (bookC T v (AV.slc (some (bx, 0)) fs.length fs.length false 1) S) true) :: (bx, .cells (ints x) true) :: (b7, ABlk.cells [.int .i64 (gF fs k).f, .int .i64 (gF fs k).t, .int .i64 (gF fs k).lo, .int .i64 (gF fs k).hi] true) :: F) (List.perm_middle (l₁ := [_, _])) ?_
  refine Ws.loopG (X := List Int × List Int) (fun _ => [(0, .ptr (some (bk, 0))), (1, .int .i64 (k : Nat)), (2, .bool true), (7, .ptr (some (b7, 0))), (8, .fn (.func 82) [.ptr (some (bk, 0))] [])]) (fun X => (bk, .cells (bookC T v (AV.slc (some (bx, 0)) fs.length fs.length false 1) X.2) true) :: (bx, .cells (ints X.1) true) :: (b7, ABlk.cells [.int .i64 (gF fs k).f, .int .i64 (gF fs k).t, .int .i64 (gF fs k).lo, .int .i64 (gF fs k).hi] true) :: F) (fun X => IsT T fs X.1 ∧ X.2.length = 13) (fun X => (bif true then (gF fs k).hi - X.1.getD k 0 else X.1.getD k 0 - (gF fs k).lo).toNat) (x, S) ⟨rfl, rfl, rfl, rfl, rfl, trivial⟩ (List.Sublist.refl _) ⟨hT', hS⟩ ?_
  clear hT' hS
  rintro ⟨x, S⟩ B2 ⟨hT', hS⟩
  dsimp only at hT' hS ⊢
  have hxr := hT'.r
  have hxl := hxr.1
  have hxk := hxr.2 k hk
  have hroom : roomR fs x k (gF fs k).f = bif true then (gF fs k).hi - x.getD k 0 else x.getD k 0 - (gF fs k).lo := by
    unfold roomR
    first
      | (rw [if_pos rfl]; rfl)
      | (rw [if_neg hu.2.2.2.2.1, if_pos rfl]; rfl)
  simp only [cond_true, cond_false] at hroom ⊢
  have c82 : ∀ {c : Nat × ABlk}, Fn tblW lo (.fn (.func 82) [.ptr (some (bk, 0))] []) [.int .i64 (k : Nat), .int .i64 (gF fs k).f] (c :: (bk, .cells (bookC T v (AV.slc (some (bx, 0)) fs.length fs.length false 1) S) true) :: (bx, .cells (ints x) true) :: (b7, ABlk.cells [.int .i64 (gF fs k).f, .int .i64 (gF fs k).t, .int .i64 (gF fs k).lo, .int .i64 (gF fs k).hi] true) :: F) (fun r F' => r = rv1 (roomR fs x k (gF fs k).f, toR fs k (gF fs k).f) ∧ F' = c :: (bk, .cells (bookC T v (AV.slc (some (bx, 0)) fs.length fs.length false 1) S) true) :: (bx, .cells (ints x) true) :: (b7, ABlk.cells [.int .i64 (gF fs k).f, .int .i64 (gF fs k).t, .int .i64 (gF fs k).lo, .int .i64 (gF fs k).hi] true) :: F) := fun {c} => Fn.bound (f82_ok hN (List.mem_cons_of_mem _ (List.mem_cons_self ..)) hr.cons.cons.cons.cons (RowI.lit (List.mem_cons_of_mem _ (List.mem_cons_of_mem _ (List.mem_cons_self ..))) hxl.symm) hxr hk lo)
  rw [hroom] at c82
  by_cases hz : (bif true then (gF fs k).hi - x.getD k 0 else x.getD k 0 - (gF fs k).lo) = 0
  · simp only [cond_true, cond_false] at hz
    (repeat' (first | (first | refine Wo.nil ?_ | refine Wd.nil ?_ | ((first | refine Wo.cons ?_ | refine Wd.cons ?_); (try refine W1.go rfl rfl ?_); ((first | refine k1 ?_ | refine k2 ?_ | (refine isDst 26 ?_; refine W1.load1R rfl (List.mem_cons_of_mem _ (List.mem_cons_of_mem _ (List.mem_cons_self ..))) rfl (ltAll (by assumption) (List.mem_cons_of_mem _ (List.mem_cons_of_mem _ (List.mem_cons_self ..)))) ?_) | (refine isDst 28 ?_; refine W1.load1R rfl (List.mem_cons_of_mem _ (List.mem_cons_of_mem _ (List.mem_cons_self ..))) rfl (ltAll (by assumption) (List.mem_cons_of_mem _ (List.mem_cons_of_mem _ (List.mem_cons_self ..)))) ?_) | (refine isDst 10 ?_; refine W1.alloc (fun b10 hb10 => ?_)) | (refine isDst 37 ?_; refine W1.callM rfl rfl (c82.mono ?_); rintro _ _ ⟨rfl, rfl⟩) | (refine isDst 41 ?_; refine W1.cO ?_) | refine W1.auto ?_ | ((first | refine kA ?_ | refine kB ?_ | refine kC ?_ | refine kD ?_ | refine kE ?_ | refine kF ?_ | refine kG ?_); refine ⟨fun _ => ?_, fun _ => ?_⟩)) <;> (try refine ⟨fun _ => rfl, ?_⟩)))) | (first | refine Ws.seq ?_ | refine Ws.region ?_ | refine Ws.draw (fun bd hbd => ?_) | refine Ws.cond rfl ?_ | refine Ws.skip ?_ | refine Ws.scope ?_ | refine Ws.block ?_ | refine Ws.exit ?_ | refine Ws.ret ?_)))
    exact FnEnd.ret (F' := (bk, .cells (bookC T v (AV.slc (some (bx, 0)) fs.length fs.length false 1) S) true) :: (bx, .cells (ints x) true) :: F) (vs := [_]) (.tmp rfl .nil) (.cons _ (.cons_cons _ (.cons_cons _ (.cons _ (List.Sublist.refl _))))) ⟨x, S, [], hT', hS, .own (by simp only [cond_true, cond_false]; omega), rfl⟩
  · simp only [cond_true, cond_false] at hz
    have h78 := fun b10 : Nat => f78_ok (lo := lo) (T := T) (fs := fs) (x := x) (S := S) (but := (k : Nat)) (a := (gF fs k).t) (most := bif true then (gF fs k).hi - x.getD k 0 else x.getD k 0 - (gF fs k).lo) (g := toB (gF fs k).f) (v := v) (gv := .fn (.func 83) [] [.ptr (some (b10, 0))]) (F := (b10, .cells [.int .i64 (gF fs k).f] true) :: (b7, ABlk.cells [.int .i64 (gF fs k).f, .int .i64 (gF fs k).t, .int .i64 (gF fs k).lo, .int .i64 (gF fs k).hi] true) :: F) (bk := bk) (bx := bx) hN hr.cons.cons hxr hbk hbx hS ⟨by omega, by omega⟩ ⟨by simp only [cond_true, cond_false]; omega, by simp only [cond_true, cond_false]; omega⟩ (fun H hs t h1 h2 => f83_ok (hs.subset (List.mem_cons_self ..)))
    rw [hxl] at h78
    simp only [cond_true, cond_false] at h78
    have h78' := fun b10 : Nat => Fn.perm (F := (b10, .cells [.int .i64 (gF fs k).f] true) :: (bk, .cells (bookC T v (AV.slc (some (bx, 0)) fs.length fs.length false 1) S) true) :: (bx, .cells (ints x) true) :: (b7, ABlk.cells [.int .i64 (gF fs k).f, .int .i64 (gF fs k).t, .int .i64 (gF fs k).lo, .int .i64 (gF fs k).hi] true) :: F) (List.perm_middle (l₁ := [_, _])) (h78 b10)
    (repeat' (first | (first | refine Wo.nil ?_ | refine Wd.nil ?_ | ((first | refine Wo.cons ?_ | refine Wd.cons ?_); (try refine W1.go rfl rfl ?_); ((first | refine k1 ?_ | refine k2 ?_ | (refine isDst 26 ?_; refine W1.load1R rfl (List.mem_cons_of_mem _ (List.mem_cons_of_mem _ (List.mem_cons_self ..))) rfl (ltAll (by assumption) (List.mem_cons_of_mem _ (List.mem_cons_of_mem _ (List.mem_cons_self ..)))) ?_) | (refine isDst 28 ?_; refine W1.load1R rfl (List.mem_cons_of_mem _ (List.mem_cons_of_mem _ (List.mem_cons_self ..))) rfl (ltAll (by assumption) (List.mem_cons_of_mem _ (List.mem_cons_of_mem _ (List.mem_cons_self ..)))) ?_) | (refine isDst 10 ?_; refine W1.alloc (fun b10 hb10 => ?_)) | (refine isDst 37 ?_; refine W1.callM rfl rfl (c82.mono ?_); rintro _ _ ⟨rfl, rfl⟩) | (refine isDst 41 ?_; refine W1.cO ?_) | refine W1.auto ?_ | ((first | refine kA ?_ | refine kB ?_ | refine kC ?_ | refine kD ?_ | refine kE ?_ | refine kF ?_ | refine kG ?_); refine ⟨fun _ => ?_, fun _ => ?_⟩)) <;> (try refine ⟨fun _ => rfl, ?_⟩)))) | (first | refine Ws.seq ?_ | refine Ws.region ?_ | refine Ws.draw (fun bd hbd => ?_) | refine Ws.cond rfl ?_ | refine Ws.skip ?_ | refine Ws.scope ?_ | refine Ws.block ?_ | refine Ws.exit ?_ | refine Ws.ret ?_)))
    refine Wo.cons ?_
    refine W1.callM rfl rfl ((h78' b10).mono ?_)
    rintro _ _ ⟨mm, e, x', S', rfl, hxl', hS', hF, rfl⟩
    have hxl2 : x'.length = fs.length := by omega
    cases hF with
    | @yes mm e x' S' he hg hm hr' ho hbut =>
      have hmp : 0 < mm := hm.1
      have hml : mm ≤ bif true then (gF fs k).hi - x.getD k 0 else x.getD k 0 - (gF fs k).lo := hm.2
      have hee : e = (gF fs k).f := of_decide_eq_true hg
      subst hee
      have hbk' := hbut k rfl
      have hst := stretch_step (high := true) hN hk hT' hr' hmp hml ho hbk'
      simp only [cond_true, cond_false] at hst hml
      have hkl : k < x'.length := by omega
      (repeat' (first | (first | refine Wo.nil ?_ | refine Wd.nil ?_ | ((first | refine Wo.cons ?_ | refine Wd.cons ?_); (try refine W1.go rfl rfl ?_); ((first | refine k1 ?_ | refine k2 ?_ | (refine isDst 52 ?_; refine W1.cO ?_) | (refine isDst 57 ?_; refine W1.load1 rfl (List.mem_cons_self ..) rfl ?_) | (refine isDst 67 ?_; refine W1.load1 rfl (List.mem_cons_self ..) rfl ?_) | (refine isDst 59 ?_; refine W1.iaddrz k rfl rfl rfl hk ?_) | (refine isDst 63 ?_; refine W1.iaddrz k rfl rfl rfl hk ?_) | (refine isDst 69 ?_; refine W1.iaddrz k rfl rfl rfl hk ?_) | (refine isDst 73 ?_; refine W1.iaddrz k rfl rfl rfl hk ?_) | (refine isDst 60 ?_; refine W1.loadI (j := k) (xs := x') rfl (by omega) (List.mem_cons_of_mem _ (List.mem_cons_self ..)) hkl ?_) | (refine isDst 70 ?_; refine W1.loadI (j := k) (xs := x') rfl (by omega) (List.mem_cons_of_mem _ (List.mem_cons_self ..)) hkl ?_) | (refine isTo 63 ?_; refine W1.storeI (xs := x') (j := k) rfl (by omega) rfl (.tail .head) hkl hbx ?_) | (refine isTo 73 ?_; refine W1.storeI (xs := x') (j := k) rfl (by omega) rfl (.tail .head) hkl hbx ?_) | refine W1.auto ?_ | ((first | refine kA ?_ | refine kB ?_ | refine kC ?_ | refine kD ?_ | refine kE ?_ | refine kF ?_ | refine kG ?_); refine ⟨fun _ => ?_, fun _ => ?_⟩)) <;> (try refine ⟨fun _ => rfl, ?_⟩)))) | (first | refine Ws.seq ?_ | refine Ws.region ?_ | refine Ws.draw (fun bd hbd => ?_) | refine Ws.cond rfl ?_ | refine Ws.skip ?_ | refine Ws.scope ?_ | refine Ws.block ?_ | refine Ws.exit ?_ | refine Ws.ret ?_)))
      refine ⟨(_, S'), ⟨rfl, rfl, rfl, rfl, rfl, trivial⟩, .cons_cons _ (.cons_cons _ (.cons _ (List.Sublist.refl _))), ⟨hst, hS'⟩, ?_⟩
      simp only [cond_true, cond_false]
      rw [getD_setI hkl, if_pos rfl]
      omega
    | @no S' c ha hg =>
      have hmem : ∀ {G : Hp}, (bk, ABlk.cells (bookC T v (AV.slc (some (bx, 0)) fs.length fs.length false 1) S') true) ∈ (bk, ABlk.cells (bookC T v (AV.slc (some (bx, 0)) fs.length fs.length false 1) S') true) :: G := fun {G} => List.mem_cons_self ..
      have hto : seenB S' (gF fs k).f = false := by
        cases h : seenB S' (gF fs k).f with
        | false => rfl
        | true => have := hg _ (by omega) (by omega) h; have := of_decide_eq_false this; exact absurd rfl this
      (repeat' (first | (first | refine Wo.nil ?_ | refine Wd.nil ?_ | ((first | refine Wo.cons ?_ | refine Wd.cons ?_); (try refine W1.go rfl rfl ?_); ((first | refine k1 ?_ | refine k2 ?_ | (refine isDst 52 ?_; refine W1.cO ?_) | (refine isDst 77 ?_; refine W1.callM rfl rfl ((f80_ok hT hS' hmem).mono ?_); rintro rs _ ⟨F1, ho1, rfl⟩) | (refine isDst 80 ?_; refine W1.callM rfl rfl ((f80_ok hT hS' hmem).mono ?_); rintro rs _ ⟨F1, ho1, rfl⟩) | (refine isDst 78 ?_; refine W1.callM rfl rfl ((f79_ok hT (List.mem_append_right _ hmem) (ho1.rowI (List.subset_append_left _ _)) (by have := pickN_len (seenB S') (T.toNat + 1); rw [pickL_N]; omega)).mono ?_); rintro rs2 _ ⟨F2, ho2, rfl⟩) | refine W1.auto ?_ | ((first | refine kA ?_ | refine kB ?_ | refine kC ?_ | refine kD ?_ | refine kE ?_ | refine kF ?_ | refine kG ?_); refine ⟨fun _ => ?_, fun _ => ?_⟩)) <;> (try refine ⟨fun _ => rfl, ?_⟩)))) | (first | refine Ws.seq ?_ | refine Ws.region ?_ | refine Ws.draw (fun bd hbd => ?_) | refine Ws.cond rfl ?_ | refine Ws.skip ?_ | refine Ws.scope ?_ | refine Ws.block ?_ | refine Ws.exit ?_ | refine Ws.ret ?_)))
      first
        | exact FnEnd.ret (F' := F1 ++ ((bk, .cells (bookC T v (AV.slc (some (bx, 0)) fs.length fs.length false 1) S') true) :: (bx, .cells (ints x) true) :: F)) (vs := [_]) (.tmp rfl .nil) (List.Sublist.append (List.Sublist.refl _) (.cons_cons _ (.cons_cons _ (.cons _ (.cons _ (List.Sublist.refl _)))))) ⟨x, S', F1, hT', hS', .set ho1 ha hto (c.low hT' hN.ends hk ha hto), rfl⟩
        | exact FnEnd.ret (F' := F2 ++ ((bk, .cells (bookC T v (AV.slc (some (bx, 0)) fs.length fs.length false 1) S') true) :: (bx, .cells (ints x) true) :: F)) (vs := [_]) (.tmp rfl .nil) (List.Sublist.append (List.Sublist.refl _) (List.Sublist.trans (.cons_cons _ (.cons_cons _ (.cons _ (.cons _ (List.Sublist.refl _))))) (List.sublist_append_right _ _))) ⟨x, S', F2, hT', hS', .set ho2 (by rw [hasT_pick (by omega) _ (by omega), hto]; rfl) (by rw [hasT_pick (by omega) _ (by omega), ha]; rfl) (by rw [bndS_congr (S' := fun t => !seenB S' t) hN.ends fun t h1 h2 => by rw [hasT_pick (by omega) _ ⟨h1, h2⟩]]; exact c.high hT' hN.ends hk hto ha), rfl⟩
theorem f60_false {T : Int} {fs : List Fl} {x S : List Int} {k : Nat} {v : AV} {bk bx : Nat} (hN : Net T fs) (hr : FRow F v fs) (hT' : IsT T fs x) (hbk : lo ≤ bk) (hbx : lo ≤ bx) (hS : S.length = 13) (hk : k < fs.length) :
    Fn tblW lo (fnv 60) [.ptr (some (bk, 0)), .int .i64 (k : Nat), .bool false] ((bk, .cells (bookC T v (AV.slc (some (bx, 0)) fs.length fs.length false 1) S) true) :: (bx, .cells (ints x) true) :: F)
      (fun r F' => ∃ x' S' Fo, IsT T fs x' ∧ S'.length = 13 ∧ StrR lo T fs k false x' r Fo ∧ F' = Fo ++ ((bk, .cells (bookC T v (AV.slc (some (bx, 0)) fs.length fs.length false 1) S') true) :: (bx, .cells (ints x') true) :: F)) := by
  refine Fn.func (fn := af60) rfl rfl ?_
  have hn := hN.n
  have hT := hN.t
  have hu := hN.u k hk
  (repeat' (first | (first | refine Wo.nil ?_ | refine Wd.nil ?_ | ((first | refine Wo.cons ?_ | refine Wd.cons ?_); (try refine W1.go rfl rfl ?_); ((first | refine k1 ?_ | refine k2 ?_ | (refine isDst 19 ?_; refine W1.load1 rfl (List.mem_cons_self ..) rfl ?_) | (refine isDst 21 ?_; refine W1.iaddrF k hr.cons.cons rfl rfl rfl hk (fun b o la own hm h0 h1 h2 h3 h4 h5 => ?_)) | (refine isDst 22 ?_; refine W1.load rfl hm h4 ?_) | (refine isDst 7 ?_; refine W1.alloc (fun b7 hb7 => ?_)) | refine W1.auto ?_ | ((first | refine kA ?_ | refine kB ?_ | refine kC ?_ | refine kD ?_ | refine kE ?_ | refine kF ?_ | refine kG ?_); refine ⟨fun _ => ?_, fun _ => ?_⟩)) <;> (try refine ⟨fun _ => rfl, ?_⟩)))) | (first | refine Ws.seq ?_ | refine Ws.region ?_ | refine Ws.draw (fun bd hbd => ?_) | refine Ws.cond rfl ?_ | refine Ws.skip ?_ | refine Ws.scope ?_ | refine Ws.block ?_ | refine Ws.exit ?_ | refine Ws.ret ?_)))
  refine Ws.fresh (l := [(0, .ptr (some (bk, 0))), (1, .int .i64 (k : Nat)), (2, .bool false), (7, .ptr (some (b7, 0))), (8, .fn (.func 82) [.ptr (some (bk, 0))] [])]) ⟨rfl, rfl, rfl, rfl, rfl, trivial⟩ (fun B => ?_)
  refine Ws.perm (F' := (bk, .cells (bookC T v (AV.slc (some (bx, 0)) fs.length fs.length false 1) S) true) :: (bx, .cells (ints x) true) :: (b7, ABlk.cells [.int .i64 (gF fs k).f, .int .i64 (gF fs k).t, .int .i64 (gF fs k).lo, .int .i64 (gF fs k).hi] true) :: F) (List.perm_middle (l₁ := [_, _])) ?_
  refine Ws.loopG (X := List Int × List Int) (fun _ => [(0, .ptr (some (bk, 0))), (1, .int .i64 (k : Nat)), (2, .bool false), (7, .ptr (some (b7, 0))), (8, .fn (.func 82) [.ptr (some (bk, 0))] [])]) (fun X => (bk, .cells (bookC T v (AV.slc (some (bx, 0)) fs.length fs.length false 1) X.2) true) :: (bx, .cells (ints X.1) true) :: (b7, ABlk.cells [.int .i64 (gF fs k).f, .int .i64 (gF fs k).t, .int .i64 (gF fs k).lo, .int .i64 (gF fs k).hi] true) :: F) (fun X => IsT T fs X.1 ∧ X.2.length = 13) (fun X => (bif false then (gF fs k).hi - X.1.getD k 0 else X.1.getD k 0 - (gF fs k).lo).toNat) (x, S) ⟨rfl, rfl, rfl, rfl, rfl, trivial⟩ (List.Sublist.refl _) ⟨hT', hS⟩ ?_
  clear hT' hS
  rintro ⟨x, S⟩ B2 ⟨hT', hS⟩
  dsimp only at hT' hS ⊢
  have hxr := hT'.r
  have hxl := hxr.1
  have hxk := hxr.2 k hk
  have hroom : roomR fs x k (gF fs k).t = bif false then (gF fs k).hi - x.getD k 0 else x.getD k 0 - (gF fs k).lo := by
    unfold roomR
    first
      | (rw [if_pos rfl]; rfl)
      | (rw [if_neg hu.2.2.2.2.1, if_pos rfl]; rfl)
  simp only [cond_true, cond_false] at hroom ⊢
  have c82 : ∀ {c : Nat × ABlk}, Fn tblW lo (.fn (.func 82) [.ptr (some (bk, 0))] []) [.int .i64 (k : Nat), .int .i64 (gF fs k).t] (c :: (bk, .cells (bookC T v (AV.slc (some (bx, 0)) fs.length fs.length false 1) S) true) :: (bx, .cells (ints x) true) :: (b7, ABlk.cells [.int .i64 (gF fs k).f, .int .i64 (gF fs k).t, .int .i64 (gF fs k).lo, .int .i64 (gF fs k).hi] true) :: F) (fun r F' => r = rv1 (roomR fs x k (gF fs k).t, toR fs k (gF fs k).t) ∧ F' = c :: (bk, .cells (bookC T v (AV.slc (some (bx, 0)) fs.length fs.length false 1) S) true) :: (bx, .cells (ints x) true) :: (b7, ABlk.cells [.int .i64 (gF fs k).f, .int .i64 (gF fs k).t, .int .i64 (gF fs k).lo, .int .i64 (gF fs k).hi] true) :: F) := fun {c} => Fn.bound (f82_ok hN (List.mem_cons_of_mem _ (List.mem_cons_self ..)) hr.cons.cons.cons.cons (RowI.lit (List.mem_cons_of_mem _ (List.mem_cons_of_mem _ (List.mem_cons_self ..))) hxl.symm) hxr hk lo)
  rw [hroom] at c82
  by_cases hz : (bif false then (gF fs k).hi - x.getD k 0 else x.getD k 0 - (gF fs k).lo) = 0
  · simp only [cond_true, cond_false] at hz
    (repeat' (first | (first | refine Wo.nil ?_ | refine Wd.nil ?_ | ((first | refine Wo.cons ?_ | refine Wd.cons ?_); (try refine W1.go rfl rfl ?_); ((first | refine k1 ?_ | refine k2 ?_ | (refine isDst 26 ?_; refine W1.load1R rfl (List.mem_cons_of_mem _ (List.mem_cons_of_mem _ (List.mem_cons_self ..))) rfl (ltAll (by assumption) (List.mem_cons_of_mem _ (List.mem_cons_of_mem _ (List.mem_cons_self ..)))) ?_) | (refine isDst 28 ?_; refine W1.load1R rfl (List.mem_cons_of_mem _ (List.mem_cons_of_mem _ (List.mem_cons_self ..))) rfl (ltAll (by assumption) (List.mem_cons_of_mem _ (List.mem_cons_of_mem _ (List.mem_cons_self ..)))) ?_) | (refine isDst 10 ?_; refine W1.alloc (fun b10 hb10 => ?_)) | (refine isDst 37 ?_; refine W1.callM rfl rfl (c82.mono ?_); rintro _ _ ⟨rfl, rfl⟩) | (refine isDst 41 ?_; refine W1.cO ?_) | refine W1.auto ?_ | ((first | refine kA ?_ | refine kB ?_ | refine kC ?_ | refine kD ?_ | refine kE ?_ | refine kF ?_ | refine kG ?_); refine ⟨fun _ => ?_, fun _ => ?_⟩)) <;> (try refine ⟨fun _ => rfl, ?_⟩)))) | (first | refine Ws.seq ?_ | refine Ws.region ?_ | refine Ws.draw (fun bd hbd => ?_) | refine Ws.cond rfl ?_ | refine Ws.skip ?_ | refine Ws.scope ?_ | refine Ws.block ?_ | refine Ws.exit ?_ | refine Ws.ret ?_)))
    exact FnEnd.ret (F' := (bk, .cells (bookC T v (AV.slc (some (bx, 0)) fs.length fs.length false 1) S) true) :: (bx, .cells (ints x) true) :: F) (vs := [_]) (.tmp rfl .nil) (.cons _ (.cons_cons _ (.cons_cons _ (.cons _ (List.Sublist.refl _))))) ⟨x, S, [], hT', hS, .own (by simp only [cond_true, cond_false]; omega), rfl⟩
  · simp only [cond_true, cond_false] at hz
    have h78 := fun b10 : Nat => f78_ok (lo := lo) (T := T) (fs := fs) (x := x) (S := S) (but := (k : Nat)) (a := (gF fs k).f) (most := bif false then (gF fs k).hi - x.getD k 0 else x.getD k 0 - (gF fs k).lo) (g := toB (gF fs k).t) (v := v) (gv := .fn (.func 83) [] [.ptr (some (b10, 0))]) (F := (b10, .cells [.int .i64 (gF fs k).t] true) :: (b7, ABlk.cells [.int .i64 (gF fs k).f, .int .i64 (gF fs k).t, .int .i64 (gF fs k).lo, .int .i64 (gF fs k).hi] true) :: F) (bk := bk) (bx := bx) hN hr.cons.cons hxr hbk hbx hS ⟨by omega, by omega⟩ ⟨by simp only [cond_true, cond_false]; omega, by simp only [cond_true, cond_false]; omega⟩ (fun H hs t h1 h2 => f83_ok (hs.subset (List.mem_cons_self ..)))
    rw [hxl] at h78
    simp only [cond_true, cond_false] at h78
    have h78' := fun b10 : Nat => Fn.perm (F := (b10, .cells [.int .i64 (gF fs k).t] true) :: (bk, .cells (bookC T v (AV.slc (some (bx, 0)) fs.length fs.length false 1) S) true) :: (bx, .cells (ints x) true) :: (b7, ABlk.cells [.int .i64 (gF fs k).f, .int .i64 (gF fs k).t, .int .i64 (gF fs k).lo, .int .i64 (gF fs k).hi] true) :: F) (List.perm_middle (l₁ := [_, _])) (h78 b10)
    (repeat' (first | (first | refine Wo.nil ?_ | refine Wd.nil ?_ | ((first | refine Wo.cons ?_ | refine Wd.cons ?_); (try refine W1.go rfl rfl ?_); ((first | refine k1 ?_ | refine k2 ?_ | (refine isDst 26 ?_; refine W1.load1R rfl (List.mem_cons_of_mem _ (List.mem_cons_of_mem _ (List.mem_cons_self ..))) rfl (ltAll (by assumption) (List.mem_cons_of_mem _ (List.mem_cons_of_mem _ (List.mem_cons_self ..)))) ?_) | (refine isDst 28 ?_; refine W1.load1R rfl (List.mem_cons_of_mem _ (List.mem_cons_of_mem _ (List.mem_cons_self ..))) rfl (ltAll (by assumption) (List.mem_cons_of_mem _ (List.mem_cons_of_mem _ (List.mem_cons_self ..)))) ?_) | (refine isDst 10 ?_; refine W1.alloc (fun b10 hb10 => ?_)) | (refine isDst 37 ?_; refine W1.callM rfl rfl (c82.mono ?_); rintro _ _ ⟨rfl, rfl⟩) | (refine isDst 41 ?_; refine W1.cO ?_) | refine W1.auto ?_ | ((first | refine kA ?_ | refine kB ?_ | refine kC ?_ | refine kD ?_ | refine kE ?_ | refine kF ?_ | refine kG ?_); refine ⟨fun _ => ?_, fun _ => ?_⟩)) <;> (try refine ⟨fun _ => rfl, ?_⟩)))) | (first | refine Ws.seq ?_ | refine Ws.region ?_ | refine Ws.draw (fun bd hbd => ?_) | refine Ws.cond rfl ?_ | refine Ws.skip ?_ | refine Ws.scope ?_ | refine Ws.block ?_ | refine Ws.exit ?_ | refine Ws.ret ?_)))
    refine Wo.cons ?_
    refine W1.callM rfl rfl ((h78' b10).mono ?_)
    rintro _ _ ⟨mm, e, x', S', rfl, hxl', hS', hF, rfl⟩
    have hxl2 : x'.length = fs.length := by omega
    cases hF with
    | @yes mm e x' S' he hg hm hr' ho hbut =>
      have hmp : 0 < mm := hm.1
      have hml : mm ≤ bif false then (gF fs k).hi - x.getD k 0 else x.getD k 0 - (gF fs k).lo := hm.2
      have hee : e = (gF fs k).t := of_decide_eq_true hg
      subst hee
      have hbk' := hbut k rfl
      have hst := stretch_step (high := false) hN hk hT' hr' hmp hml ho hbk'
      simp only [cond_true, cond_false] at hst hml
      have hkl : k < x'.length := by omega
      (repeat' (first | (first | refine Wo.nil ?_ | refine Wd.nil ?_ | ((first | refine Wo.cons ?_ | refine Wd.cons ?_); (try refine W1.go rfl rfl ?_); ((first | refine k1 ?_ | refine k2 ?_ | (refine isDst 52 ?_; refine W1.cO ?_) | (refine isDst 57 ?_; refine W1.load1 rfl (List.mem_cons_self ..) rfl ?_) | (refine isDst 67 ?_; refine W1.load1 rfl (List.mem_cons_self ..) rfl ?_) | (refine isDst 59 ?_; refine W1.iaddrz k rfl rfl rfl hk ?_) | (refine isDst 63 ?_; refine W1.iaddrz k rfl rfl rfl hk ?_) | (refine isDst 69 ?_; refine W1.iaddrz k rfl rfl rfl hk ?_) | (refine isDst 73 ?_; refine W1.iaddrz k rfl rfl rfl hk ?_) | (refine isDst 60 ?_; refine W1.loadI (j := k) (xs := x') rfl (by omega) (List.mem_cons_of_mem _ (List.mem_cons_self ..)) hkl ?_) | (refine isDst 70 ?_; refine W1.loadI (j := k) (xs := x') rfl (by omega) (List.mem_cons_of_mem _ (List.mem_cons_self ..)) hkl ?_) | (refine isTo 63 ?_; refine W1.storeI (xs := x') (j := k) rfl (by omega) rfl (.tail .head) hkl hbx ?_) | (refine isTo 73 ?_; refine W1.storeI (xs := x') (j := k) rfl (by omega) rfl (.tail .head) hkl hbx ?_) | refine W1.auto ?_ | ((first | refine kA ?_ | refine kB ?_ | refine kC ?_ | refine kD ?_ | refine kE ?_ | refine kF ?_ | refine kG ?_); refine ⟨fun _ => ?_, fun _ => ?_⟩)) <;> (try refine ⟨fun _ => rfl, ?_⟩)))) | (first | refine Ws.seq ?_ | refine Ws.region ?_ | refine Ws.draw (fun bd hbd => ?_) | refine Ws.cond rfl ?_ | refine Ws.skip ?_ | refine Ws.scope ?_ | refine Ws.block ?_ | refine Ws.exit ?_ | refine Ws.ret ?_)))
      refine ⟨(_, S'), ⟨rfl, rfl, rfl, rfl, rfl, trivial⟩, .cons_cons _ (.cons_cons _ (.cons _ (List.Sublist.refl _))), ⟨hst, hS'⟩, ?_⟩
      simp only [cond_true, cond_false]
      rw [getD_setI hkl, if_pos rfl]
      omega
    | @no S' c ha hg =>
      have hmem : ∀ {G : Hp}, (bk, ABlk.cells (bookC T v (AV.slc (some (bx, 0)) fs.length fs.length false 1) S') true) ∈ (bk, ABlk.cells (bookC T v (AV.slc (some (bx, 0)) fs.length fs.length false 1) S') true) :: G := fun {G} => List.mem_cons_self ..
      have hto : seenB S' (gF fs k).t = false := by
        cases h : seenB S' (gF fs k).t with
        | false => rfl
        | true => have := hg _ (by omega) (by omega) h; have := of_decide_eq_false this; exact absurd rfl this
      (repeat' (first | (first | refine Wo.nil ?_ | refine Wd.nil ?_ | ((first | refine Wo.cons ?_ | refine Wd.cons ?_); (try refine W1.go rfl rfl ?_); ((first | refine k1 ?_ | refine k2 ?_ | (refine isDst 52 ?_; refine W1.cO ?_) | (refine isDst 77 ?_; refine W1.callM rfl rfl ((f80_ok hT hS' hmem).mono ?_); rintro rs _ ⟨F1, ho1, rfl⟩) | (refine isDst 80 ?_; refine W1.callM rfl rfl ((f80_ok hT hS' hmem).mono ?_); rintro rs _ ⟨F1, ho1, rfl⟩) | (refine isDst 78 ?_; refine W1.callM rfl rfl ((f79_ok hT (List.mem_append_right _ hmem) (ho1.rowI (List.subset_append_left _ _)) (by have := pickN_len (seenB S') (T.toNat + 1); rw [pickL_N]; omega)).mono ?_); rintro rs2 _ ⟨F2, ho2, rfl⟩) | refine W1.auto ?_ | ((first | refine kA ?_ | refine kB ?_ | refine kC ?_ | refine kD ?_ | refine kE ?_ | refine kF ?_ | refine kG ?_); refine ⟨fun _ => ?_, fun _ => ?_⟩)) <;> (try refine ⟨fun _ => rfl, ?_⟩)))) | (first | refine Ws.seq ?_ | refine Ws.region ?_ | refine Ws.draw (fun bd hbd => ?_) | refine Ws.cond rfl ?_ | refine Ws.skip ?_ | refine Ws.scope ?_ | refine Ws.block ?_ | refine Ws.exit ?_ | refine Ws.ret ?_)))
      first
        | exact FnEnd.ret (F' := F1 ++ ((bk, .cells (bookC T v (AV.slc (some (bx, 0)) fs.length fs.length false 1) S') true) :: (bx, .cells (ints x) true) :: F)) (vs := [_]) (.tmp rfl .nil) (List.Sublist.append (List.Sublist.refl _) (.cons_cons _ (.cons_cons _ (.cons _ (.cons _ (List.Sublist.refl _)))))) ⟨x, S', F1, hT', hS', .set ho1 ha hto (c.low hT' hN.ends hk ha hto), rfl⟩
        | exact FnEnd.ret (F' := F2 ++ ((bk, .cells (bookC T v (AV.slc (some (bx, 0)) fs.length fs.length false 1) S') true) :: (bx, .cells (ints x) true) :: F)) (vs := [_]) (.tmp rfl .nil) (List.Sublist.append (List.Sublist.refl _) (List.Sublist.trans (.cons_cons _ (.cons_cons _ (.cons _ (.cons _ (List.Sublist.refl _))))) (List.sublist_append_right _ _))) ⟨x, S', F2, hT', hS', .set ho2 (by rw [hasT_pick (by omega) _ (by omega), hto]; rfl) (by rw [hasT_pick (by omega) _ (by omega), ha]; rfl) (by rw [bndS_congr (S' := fun t => !seenB S' t) hN.ends fun t h1 h2 => by rw [hasT_pick (by omega) _ ⟨h1, h2⟩]]; exact c.high hT' hN.ends hk hto ha), rfl⟩
end Go.Ax
