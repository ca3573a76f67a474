/-
  Contracts: the reference's truth: the whole.
-/
import Derived.Test.YtjcehnfhkgbpiaaXRK
namespace Go.Ax
set_option maxHeartbeats 1000000
set_option maxRecDepth 6000
set_option linter.unusedSimpArgs false
set_option linter.unusedVariables false
attribute [-simp] List.getD_eq_getElem?_getD
variable {lo : Nat} {F : Hp}
theorem f24_a {T : Int} {fs : List Fl} {O x0 : List Int} {xv0 v : AV} {Fo0 : Hp} {b5 b1 : Nat} {B : FE} (hN : Net T fs) (hr : FRow F v fs) (hOl : O.length = T.toNat + 1) (hO : ∀ t : Nat, t < T.toNat + 1 → O.getD t 0 = ov fs x0 fs.length (t : Nat)) (hxr : inRg fs x0) (hl0 : LitB lo fs xv0 Fo0 x0) :
    Ws tblW lo none (af24.body.loopAt 2) (upds B ((4, xv0) :: (7, .bool true) :: (8, .int .i64 0) :: (9, .int .i64 0) :: [(1, .ptr (some (b1, 0))), (6, (AV.slc (some (b5, 0)) (T.toNat + 1) (T.toNat + 1) true 1))])) (Fo0 ++ ((b5, ABlk.cells (ints O) true) :: (b1, .cells [.int .i64 T, v] true) :: F))
      fun r E' H => r = .exit 4 ∧ ∃ s, TI lo T fs O x0 xv0 Fo0 (fun a' b' => a' < T.toNat + 1) s ∧ Holds E' ((4, s.xv) :: (7, .bool (dnB O (T.toNat + 1))) :: (8, .int .i64 s.mv) :: [(1, .ptr (some (b1, 0)))]) ∧ H = s.Fo ++ ((b5, ABlk.cells (ints O) true) :: (b1, .cells [.int .i64 T, v] true) :: F) := by
  show Ws tblW lo none (.loop _) _ _ _
  refine Ws.shrink ?_
  have hT := hN.t
  refine Ws.loopG (X := Nat × TS) (fun X => (4, X.2.xv) :: (7, .bool (dnB O X.1)) :: (8, .int .i64 X.2.mv) :: (9, .int .i64 (X.1 : Nat)) :: [(1, .ptr (some (b1, 0))), (6, (AV.slc (some (b5, 0)) (T.toNat + 1) (T.toNat + 1) true 1))]) (fun X => X.2.Fo ++ ((b5, ABlk.cells (ints O) true) :: (b1, .cells [.int .i64 T, v] true) :: F)) (fun X => X.1 ≤ T.toNat + 1 ∧ TI lo T fs O x0 xv0 Fo0 (fun a' b' => a' < X.1) X.2) (fun X => T.toNat + 1 - X.1) (0, ⟨x0, xv0, Fo0, 0⟩) ⟨rfl, rfl, rfl, rfl, rfl, rfl, trivial⟩ (List.Sublist.refl _) ⟨Nat.zero_le _, .inl ⟨rfl, rfl, rfl, rfl, fun a' b' hp => absurd hp (Nat.not_lt_zero _)⟩⟩ ?_
  rintro ⟨a, s⟩ B2 ⟨ha, hI⟩
  have ha : a ≤ T.toNat + 1 := ha
  dsimp only at hI ⊢
  by_cases hac : a < T.toNat + 1
  · (repeat' (first | (first | refine Wo.nil ?_ | refine Wd.nil ?_ | ((first | refine Wo.cons ?_ | refine Wd.cons ?_); (try refine W1.go rfl rfl ?_); ((first | refine k1 ?_ | refine k2 ?_ | (refine isDst 33 ?_; refine W1.lenv rfl ?_) | (refine isDst 34 ?_; refine W1.cO ?_) | refine W1.auto ?_) <;> (try refine ⟨fun _ => rfl, ?_⟩)))) | (first | refine Ws.seq ?_ | refine Ws.region ?_ | refine Ws.draw (fun bd hbd => ?_) | refine Ws.cond rfl ?_ | refine Ws.skip ?_ | refine Ws.scope ?_ | refine Ws.block ?_ | refine Ws.exit ?_ | refine Ws.ret ?_)))
    refine Ws.fresh (l := (4, s.xv) :: (7, .bool (dnB O a)) :: (8, .int .i64 s.mv) :: (10, .int .i64 0) :: [(1, .ptr (some (b1, 0))), (6, (AV.slc (some (b5, 0)) (T.toNat + 1) (T.toNat + 1) true 1)), (9, .int .i64 (a : Nat))]) ⟨rfl, rfl, rfl, rfl, rfl, rfl, rfl, trivial⟩ (fun B3 => ?_)
    refine (f24_b hN hr hOl hO hxr hl0 hac hI).mono ?_
    rintro r E' H ⟨rfl, s2, hI2, hE', rfl⟩
    refine Ws.fresh hE' (fun B4 => ?_)
    (repeat' (first | (first | refine Wo.nil ?_ | refine Wd.nil ?_ | ((first | refine Wo.cons ?_ | refine Wd.cons ?_); (try refine W1.go rfl rfl ?_); ((first | refine k1 ?_ | refine k2 ?_ | (refine isDst 33 ?_; refine W1.lenv rfl ?_) | (refine isDst 34 ?_; refine W1.cO ?_) | refine W1.auto ?_) <;> (try refine ⟨fun _ => rfl, ?_⟩)))) | (first | refine Ws.seq ?_ | refine Ws.region ?_ | refine Ws.draw (fun bd hbd => ?_) | refine Ws.cond rfl ?_ | refine Ws.skip ?_ | refine Ws.scope ?_ | refine Ws.block ?_ | refine Ws.exit ?_ | refine Ws.ret ?_)))
    exact ⟨(a + 1, s2), ⟨rfl, rfl, rfl, rfl, rfl, rfl, trivial⟩, List.Sublist.refl _, ⟨hac, hI2⟩, by show _ - (a + 1) < _ - a; omega⟩
  · obtain rfl : a = T.toNat + 1 := by omega
    (repeat' (first | (first | refine Wo.nil ?_ | refine Wd.nil ?_ | ((first | refine Wo.cons ?_ | refine Wd.cons ?_); (try refine W1.go rfl rfl ?_); ((first | refine k1 ?_ | refine k2 ?_ | (refine isDst 33 ?_; refine W1.lenv rfl ?_) | (refine isDst 34 ?_; refine W1.cO ?_) | refine W1.auto ?_) <;> (try refine ⟨fun _ => rfl, ?_⟩)))) | (first | refine Ws.seq ?_ | refine Ws.region ?_ | refine Ws.draw (fun bd hbd => ?_) | refine Ws.cond rfl ?_ | refine Ws.skip ?_ | refine Ws.scope ?_ | refine Ws.block ?_ | refine Ws.exit ?_ | refine Ws.ret ?_)))
    exact ⟨_, List.Sublist.refl _, rfl, s, hI, ⟨rfl, rfl, rfl, rfl, trivial⟩, rfl⟩
inductive RTrR (lo : Nat) (T : Int) (fs : List Fl) : AV → Hp → Prop
  | yes {x : List Int} {xv : AV} {Fo : Hp} (h : IsT T fs x) (hl : LitB lo fs xv Fo x) : RTrR lo T fs (.tup [xv, .bool true]) Fo
  | no (h : ¬ ∃ x, IsT T fs x) : RTrR lo T fs (.tup [(AV.slc none 0 0 true 0), .bool false]) []
theorem OwnI.litB {fs : List Fl} {xv : AV} {Fo : Hp} {x : List Int} (h : OwnI lo false xv Fo x) (hx : x.length = fs.length) (hz : fs = [] → Fo = []) : LitB lo fs xv Fo x := by
  cases h with
  | nil => exact .nil (List.length_eq_zero_iff.1 hx.symm)
  | row hb => rw [hx]; exact .row hb hx fun h => by cases hz h
theorem f24_ok {T : Int} {fs : List Fl} {v : AV} (hN : Net T fs) (hr : FRow F v fs) : Fn tblW lo (fnv 24) [netV T v] F (fun r F' => ∃ Fo, RTrR lo T fs r Fo ∧ F' = Fo ++ F) := by
  refine Fn.func (fn := af24) rfl rfl ?_
  have hn := hN.n
  have hT := hN.t
  (repeat' (first | (first | refine Wo.nil ?_ | refine Wd.nil ?_ | ((first | refine Wo.cons ?_ | refine Wd.cons ?_); (try refine W1.go rfl rfl ?_); ((first | refine k1 ?_ | refine k2 ?_ | (refine isDst 1 ?_; refine W1.boxA rfl (fun b1 hb1 => ?_)) | refine W1.auto ?_) <;> (try refine ⟨fun _ => rfl, ?_⟩)))) | (first | refine Ws.seq ?_ | refine Ws.region ?_ | refine Ws.draw (fun bd hbd => ?_) | refine Ws.cond rfl ?_ | refine Ws.skip ?_ | refine Ws.scope ?_ | refine Ws.block ?_ | refine Ws.exit ?_ | refine Ws.ret ?_)))
  refine Ws.fresh (l := (4, (AV.slc none 0 0 true 0)) :: (5, .int .i64 0) :: [(1, .ptr (some (b1, 0)))]) ⟨rfl, rfl, rfl, trivial⟩ (fun B => ?_)
  refine Ws.loopG (X := Nat × AV × Hp) (fun x => (4, x.2.1) :: (5, .int .i64 (x.1 : Nat)) :: [(1, .ptr (some (b1, 0)))]) (fun x => x.2.2 ++ ((b1, ABlk.cells [.int .i64 T, v] true) :: F)) (fun x => x.1 ≤ fs.length ∧ OwnI lo false x.2.1 x.2.2 ((fs.take x.1).map (·.lo)) ∧ (x.1 = 0 → x.2.2 = [])) (fun x => fs.length - x.1) (0, (AV.slc none 0 0 true 0), []) ⟨rfl, rfl, rfl, trivial⟩ (List.Sublist.refl _) ⟨Nat.zero_le _, .nil, fun _ => rfl⟩ ?_
  rintro ⟨i, xv, Fo⟩ B2 ⟨hi, ho, hz⟩
  have hi : i ≤ fs.length := hi
  have ho : OwnI lo false xv Fo ((fs.take i).map (·.lo)) := ho
  dsimp only
  have mb1 : (b1, ABlk.cells [.int .i64 T, v] true) ∈ Fo ++ ((b1, ABlk.cells [.int .i64 T, v] true) :: F) := List.mem_append_right _ (List.mem_cons_self ..)
  have hr' : FRow (Fo ++ ((b1, ABlk.cells [.int .i64 T, v] true) :: F)) v fs := hr.cons.app
  by_cases hic : i < fs.length
  · have hlt : ((fs.take i).map (·.lo)).length < 1000000000000 := by rw [List.length_map, List.length_take]; omega
    (repeat' (first | (first | refine Wo.nil ?_ | refine Wd.nil ?_ | ((first | refine Wo.cons ?_ | refine Wd.cons ?_); (try refine W1.go rfl rfl ?_); ((first | refine k1 ?_ | refine k2 ?_ | (refine isDst 13 ?_; refine W1.load1 rfl mb1 rfl ?_) | (refine isDst 14 ?_; refine W1.lenZ hr' rfl ?_) | (refine isDst 15 ?_; refine W1.cO ?_) | (refine isDst 20 ?_; refine W1.load1 rfl mb1 rfl ?_) | (refine isDst 22 ?_; refine W1.iaddrF i hr' rfl rfl rfl hic (fun b o la own hm h0 h1 h2 h3 h4 h5 => ?_)) | (refine isDst 25 ?_; refine W1.load1 rfl hm h2 ?_) | (refine isDst 26 ?_; refine W1.bslice (l := [.int .i64 (gF fs i).lo]) (fill_all (catF1 rfl rfl catF0) rfl) (fun b24 hb24 => ?_)) | (refine isDst 27 ?_; refine W1.appI (F1 := [_]) rfl ho rfl rfl (List.mem_cons_self ..) hlt (fun w Fw hw => ?_); simp only [List.cons_append, List.nil_append]) | refine W1.auto ?_) <;> (try refine ⟨fun _ => rfl, ?_⟩)))) | (first | refine Ws.seq ?_ | refine Ws.region ?_ | refine Ws.draw (fun bd hbd => ?_) | refine Ws.cond rfl ?_ | refine Ws.skip ?_ | refine Ws.scope ?_ | refine Ws.block ?_ | refine Ws.exit ?_ | refine Ws.ret ?_)))
    refine ⟨(i + 1, w, Fw), ⟨rfl, rfl, rfl, trivial⟩, ?_, ⟨hic, ?_, fun h => by cases h⟩, by show _ - (i + 1) < _ - i; omega⟩
    · exact List.Sublist.append (List.Sublist.refl _) (.cons _ (List.Sublist.refl _))
    · show OwnI lo false w Fw ((fs.take (i + 1)).map (·.lo))
      rw [take_snoc hic, List.map_append]
      exact hw
  · obtain rfl : i = fs.length := by omega
    rw [List.take_length] at ho
    have hl0 : LitB lo fs xv Fo (fs.map (·.lo)) := ho.litB (by simp) fun h => hz (by rw [h]; rfl)
    have hxr0 := lo_inRg hN
    generalize fs.map (·.lo) = x0 at *
    (repeat' (first | (first | refine Wo.nil ?_ | refine Wd.nil ?_ | ((first | refine Wo.cons ?_ | refine Wd.cons ?_); (try refine W1.go rfl rfl ?_); ((first | refine k1 ?_ | refine k2 ?_ | (refine isDst 13 ?_; refine W1.load1 rfl mb1 rfl ?_) | (refine isDst 14 ?_; refine W1.lenZ hr' rfl ?_) | (refine isDst 15 ?_; refine W1.cO ?_) | refine W1.auto ?_) <;> (try refine ⟨fun _ => rfl, ?_⟩)))) | (first | refine Ws.seq ?_ | refine Ws.region ?_ | refine Ws.draw (fun bd hbd => ?_) | refine Ws.cond rfl ?_ | refine Ws.skip ?_ | refine Ws.scope ?_ | refine Ws.block ?_ | refine Ws.exit ?_ | refine Ws.ret ?_)))
    refine Ws.fresh (l := (4, xv) :: [(1, .ptr (some (b1, 0)))]) ⟨rfl, rfl, trivial⟩ (fun B3 => ?_)
    refine Ws.loopG (X := List Int × AV × Hp) (fun X => (4, X.2.1) :: [(1, .ptr (some (b1, 0)))]) (fun X => X.2.2 ++ ((b1, ABlk.cells [.int .i64 T, v] true) :: F)) (fun X => inRg fs X.1 ∧ LitB lo fs X.2.1 X.2.2 X.1) (fun X => (posS T fs X.1).toNat) (x0, xv, Fo) ⟨rfl, rfl, trivial⟩ (List.Sublist.refl _) ⟨hxr0, hl0⟩ ?_
    clear hxr0 hl0 ho mb1 hr' hz
    rintro ⟨x, xv, Fo⟩ B4 ⟨hxr, hlit⟩
    dsimp only at hxr hlit ⊢
    have mb1 : (b1, ABlk.cells [.int .i64 T, v] true) ∈ Fo ++ ((b1, ABlk.cells [.int .i64 T, v] true) :: F) := List.mem_append_right _ (List.mem_cons_self ..)
    have h54 := f54_ok (lo := lo) (F := Fo ++ ((b1, ABlk.cells [.int .i64 T, v] true) :: F)) (T := T) (fs := fs) (x := x) (v := v) (xv := xv) hN hr.cons.app (hlit.lit (List.subset_append_left _ _)).r hxr.1 (hxr.nn hN)
    have hOl : (ovK (T.toNat + 1) fs x fs.length).length = T.toNat + 1 := ovK_len
    have hO : ∀ t : Nat, t < T.toNat + 1 → (ovK (T.toNat + 1) fs x fs.length).getD t 0 = ov fs x fs.length (t : Nat) := fun t ht => ovK_get ht
    generalize ovK (T.toNat + 1) fs x fs.length = O at *
    (repeat' (first | (first | refine Wo.nil ?_ | refine Wd.nil ?_ | ((first | refine Wo.cons ?_ | refine Wd.cons ?_); (try refine W1.go rfl rfl ?_); ((first | refine k1 ?_ | refine k2 ?_ | (refine isDst 28 ?_; refine W1.loadA rfl mb1 rfl ?_) | (refine isDst 30 ?_; refine W1.callM rfl rfl (h54.mono ?_); rintro _ _ ⟨b5, hb5, rfl, rfl⟩) | refine W1.auto ?_) <;> (try refine ⟨fun _ => rfl, ?_⟩)))) | (first | refine Ws.seq ?_ | refine Ws.region ?_ | refine Ws.draw (fun bd hbd => ?_) | refine Ws.cond rfl ?_ | refine Ws.skip ?_ | refine Ws.scope ?_ | refine Ws.block ?_ | refine Ws.exit ?_ | refine Ws.ret ?_)))
    refine Ws.fresh (l := (4, xv) :: (7, .bool true) :: (8, .int .i64 0) :: (9, .int .i64 0) :: [(1, .ptr (some (b1, 0))), (6, (AV.slc (some (b5, 0)) (T.toNat + 1) (T.toNat + 1) true 1))]) ⟨rfl, rfl, rfl, rfl, rfl, rfl, trivial⟩ (fun B5 => ?_)
    refine Ws.perm (F' := Fo ++ ((b5, ABlk.cells (ints O) true) :: (b1, .cells [.int .i64 T, v] true) :: F)) List.perm_middle ?_
    refine (f24_a hN hr hOl hO hxr hlit).mono ?_
    rintro r E' H ⟨rfl, s, hI, hE', rfl⟩
    refine Ws.fresh hE' (fun B6 => ?_)
    cases hdn : dnB O (T.toNat + 1) with
    | true =>
      have hall := dnB_iff.1 hdn
      have hT' : IsT T fs x := all_zero hN hxr fun t ht => by have := hall t ht; rw [hO t ht] at this; omega
      rcases hI with ⟨w1, w2, w3, w4, w5⟩ | ⟨_, _, _, _, j, hj, hp⟩
      rotate_left
      · have := hall j hj; omega
      obtain ⟨sx, sxv, sFo, smv⟩ := s
      dsimp only at w1 w2 w3 w4 ⊢
      subst w1 w2 w3 w4
      (repeat' (first | (first | refine Wo.nil ?_ | refine Wd.nil ?_ | ((first | refine Wo.cons ?_ | refine Wd.cons ?_); (try refine W1.go rfl rfl ?_); ((first | refine k1 ?_ | refine k2 ?_ | refine W1.auto ?_) <;> (try refine ⟨fun _ => rfl, ?_⟩)))) | (first | refine Ws.seq ?_ | refine Ws.region ?_ | refine Ws.draw (fun bd hbd => ?_) | refine Ws.cond rfl ?_ | refine Ws.skip ?_ | refine Ws.scope ?_ | refine Ws.block ?_ | refine Ws.exit ?_ | refine Ws.ret ?_)))
      exact FnEnd.ret (F' := sFo ++ F) (vs := [_, _]) (.tmp rfl (.tmp rfl .nil)) (List.Sublist.append (List.Sublist.refl _) (.cons _ (.cons _ (List.Sublist.refl _)))) ⟨sFo, .yes hT' hlit, rfl⟩
    | false =>
      by_cases hmv : s.mv = 0
      · rcases hI with ⟨w1, w2, w3, w4, w5⟩ | h
        rotate_left
        · have := h.1; omega
        have hno : ¬ ∃ y, IsT T fs y := by
          by_cases hex : ∃ a, a < T.toNat + 1 ∧ 0 < O.getD a 0
          · obtain ⟨a, ha, hp⟩ := hex
            refine noway_short (a := a) hN hxr (by omega) (by rw [← hO a ha]; exact hp) fun b hb hneg => ?_
            exact w5 a b ha hp (by rw [hO b (by omega)]; exact hneg)
          · have hT' : IsT T fs x := all_zero hN hxr fun t ht => by
              rw [← hO t ht]
              exact Int.not_lt.1 fun h => hex ⟨t, ht, h⟩
            have : dnB O (T.toNat + 1) = true := dnB_iff.2 fun j hj => by rw [hO j hj]; exact hT'.o _ (by omega) (by omega)
            rw [hdn] at this; cases this
        (repeat' (first | (first | refine Wo.nil ?_ | refine Wd.nil ?_ | ((first | refine Wo.cons ?_ | refine Wd.cons ?_); (try refine W1.go rfl rfl ?_); ((first | refine k1 ?_ | refine k2 ?_ | (refine isDst 88 ?_; refine W1.cO ?_) | refine W1.auto ?_) <;> (try refine ⟨fun _ => rfl, ?_⟩)))) | (first | refine Ws.seq ?_ | refine Ws.region ?_ | refine Ws.draw (fun bd hbd => ?_) | refine Ws.cond rfl ?_ | refine Ws.skip ?_ | refine Ws.scope ?_ | refine Ws.block ?_ | refine Ws.exit ?_ | refine Ws.ret ?_)))
        exact FnEnd.ret (F' := F) (vs := [_, _]) (.tmp rfl (.tmp rfl .nil)) (List.Sublist.trans (.cons _ (.cons _ (List.Sublist.refl _))) (List.sublist_append_right _ _)) ⟨[], .no hno, rfl⟩
      · rcases hI with ⟨w1, _⟩ | ⟨w1, w2, w3, w4, _⟩
        · exact absurd w1 hmv
        have hnn := posS_nn (T := T) (fs := fs) (x := s.x)
        (repeat' (first | (first | refine Wo.nil ?_ | refine Wd.nil ?_ | ((first | refine Wo.cons ?_ | refine Wd.cons ?_); (try refine W1.go rfl rfl ?_); ((first | refine k1 ?_ | refine k2 ?_ | (refine isDst 88 ?_; refine W1.cO ?_) | refine W1.auto ?_) <;> (try refine ⟨fun _ => rfl, ?_⟩)))) | (first | refine Ws.seq ?_ | refine Ws.region ?_ | refine Ws.draw (fun bd hbd => ?_) | refine Ws.cond rfl ?_ | refine Ws.skip ?_ | refine Ws.scope ?_ | refine Ws.block ?_ | refine Ws.exit ?_ | refine Ws.ret ?_)))
        exact ⟨(s.x, s.xv, s.Fo), ⟨rfl, rfl, trivial⟩, List.Sublist.append (List.Sublist.refl _) (.cons _ (List.Sublist.refl _)), ⟨w2, w3⟩, by show (posS T fs s.x).toNat < (posS T fs x).toNat; omega⟩
end Go.Ax
