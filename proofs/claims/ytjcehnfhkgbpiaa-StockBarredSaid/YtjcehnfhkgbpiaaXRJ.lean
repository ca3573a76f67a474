/-
  Contracts: the reference's way: the whole.
-/
import Derived.Test.YtjcehnfhkgbpiaaXRI
namespace Go.Ax
set_option maxHeartbeats 1000000
set_option maxRecDepth 6000
set_option linter.unusedSimpArgs false
set_option linter.unusedVariables false
attribute [-simp] List.getD_eq_getElem?_getD
variable {lo : Nat} {F : Hp}
inductive PshR (lo : Nat) (T : Int) (fs : List Fl) (x : List Int) (xv : AV) (but a b most : Int) : AV → Hp → Prop
  | no (h : a = b ∨ ∃ S : Int → Bool, Clo fs x but S ∧ S a = true ∧ S b = false) : PshR lo T fs x xv but a b most (.tup [xv, .int .i64 0]) []
  | yes {m : Int} {x' : List Int} {b22 : Nat} (hb22 : lo ≤ b22) (hab : a ≠ b) (hm : 0 ≤ m ∧ m ≤ most ∧ (0 < most → 0 < m)) (hr : inRg fs x') (ho : ∀ t, ov fs x' fs.length t = ov fs x fs.length t + (if t = b then m else 0) - (if t = a then m else 0)) (hb : ∀ j : Nat, (j : Int) = but → x'.getD j 0 = x.getD j 0) : PshR lo T fs x xv but a b most (.tup [.slc (some (b22, 0)) fs.length fs.length false 1, .int .i64 m]) [(b22, .cells (ints x') true)]
theorem clo_done {T : Int} {fs : List Fl} {x : List Int} {but a : Int} {D : List Cm} (hN : Net T fs) (hd : ∀ t, t ∈ nodes a D → DoneR fs x but a D t fs.length) : Clo fs x but (fun t => decide (t ∈ nodes a D)) := by
  refine ⟨fun i hi hb hf hx => ?_, fun i hi hb hf hx => ?_⟩
  · have hu := hN.u i hi
    have := hd _ (of_decide_eq_true hf) i hi hb (by unfold roomR; rw [if_pos rfl]; omega)
    unfold toR at this
    rw [if_pos rfl] at this
    exact decide_eq_true this
  · have hu := hN.u i hi
    have := hd _ (of_decide_eq_true hf) i hi hb (by unfold roomR; rw [if_neg hu.2.2.2.2.1, if_pos rfl]; omega)
    unfold toR at this
    rw [if_neg hu.2.2.2.2.1, if_pos rfl] at this
    exact decide_eq_true this
theorem f58_ok {T : Int} {fs : List Fl} {x : List Int} {but a b most : Int} {v xv : AV} (hN : Net T fs) (hr : FRow F v fs) (hx : RowI F xv x) (hxr : inRg fs x) (haT : 0 ≤ a ∧ a ≤ T) (hbT : 0 ≤ b ∧ b ≤ T) (hm : 0 ≤ most ∧ most ≤ 100000000) :
    Fn tblW lo (fnv 58) [netV T v, xv, .int .i64 a, .int .i64 b, .int .i64 but, .int .i64 most] F (fun r F' => ∃ Fo, PshR lo T fs x xv but a b most r Fo ∧ F' = Fo ++ F) := by
  refine Fn.func (fn := af58) rfl rfl ?_
  have hn := hN.n
  have hT := hN.t
  have hxl := hxr.1
  obtain ⟨aa, rfl⟩ : ∃ aa : Nat, a = (aa : Nat) := ⟨a.toNat, by omega⟩
  obtain ⟨bb, rfl⟩ : ∃ bb : Nat, b = (bb : Nat) := ⟨b.toNat, by omega⟩
  (repeat' (first | (first | refine Wo.nil ?_ | refine Wd.nil ?_ | ((first | refine Wo.cons ?_ | refine Wd.cons ?_); (try refine W1.go rfl rfl ?_); ((first | refine k1 ?_ | refine k2 ?_ | (refine isDst 6 ?_; refine W1.boxA rfl (fun b6 hb6 => ?_)) | (refine isDst 27 ?_; refine W1.mkslcIz (T.toNat + 1) rfl rfl (by omega) (by unfold room; omega) (fun b14 hb14 => ?_)) | (refine isDst 31 ?_; refine W1.load1 rfl (List.mem_cons_of_mem _ (List.mem_cons_self ..)) rfl ?_) | (refine isDst 32 ?_; refine W1.lenZ hr.cons.cons rfl ?_) | (refine isDst 34 ?_; refine W1.iaddrz aa rfl rfl rfl (by omega) ?_) | (refine isTo 34 ?_; refine W1.storeI (xs := List.replicate (T.toNat + 1) 0) (j := aa) rfl (by omega) rfl .head (by rw [List.length_replicate]; omega) hb14 ?_) | (refine isDst 36 ?_; refine W1.bslice (l := [.int .i64 ((aa : Nat) : Int)]) (fill_all (catF1 rfl rfl catF0) rfl) (fun bq hbq => ?_)) | refine W1.auto ?_) <;> (try refine ⟨fun _ => rfl, ?_⟩)))) | (first | refine Ws.seq ?_ | refine Ws.region ?_ | refine Ws.draw (fun bd hbd => ?_) | refine Ws.cond rfl ?_ | refine Ws.skip ?_ | refine Ws.scope ?_ | refine Ws.block ?_ | refine Ws.exit ?_ | refine Ws.ret ?_)))
  have hI0 : PInv lo T fs x but (aa : Nat) ⟨[], [], 0, .slc (some (bq, 0)) 1 1 true 1, bq, 0, [.int .i64 ((aa : Nat) : Int)], [((aa : Nat) : Int)], (List.replicate (T.toNat + 1) 0).set aa ((fs.length : Nat) + 1)⟩ := by
    refine ⟨.nil, by simp, fun t ht => ?_, QS.one (Nat.le_refl _), hbq, fun t ht => by rw [List.mem_singleton] at ht; subst ht; exact nodes_root⟩
    dsimp only
    rw [getD_setI (by rw [List.length_replicate]; omega), rep0]
    by_cases e : t = aa
    · subst e; rw [if_pos rfl]; unfold byV; rw [if_pos rfl]
    · rw [if_neg e]
      exact (byV_zero.2 fun k => by simp only [nodes, List.map_nil, List.nil_append, List.mem_singleton] at k; omega).symm
  refine Ws.fresh (l := (15, .slc (some (bq, 0)) 1 1 true 1) :: [(1, xv), (2, .int .i64 (aa : Nat)), (3, .int .i64 (bb : Nat)), (4, .int .i64 but), (5, .int .i64 most), (6, .ptr (some (b6, 0))), (14, (AV.slc (some (b14, 0)) (T.toNat + 1) (T.toNat + 1) true 1))]) ⟨rfl, rfl, rfl, rfl, rfl, rfl, rfl, rfl, trivial⟩ (fun B => ?_)
  refine (f58_out (most := most) hN hr hx hxr hb14 hI0 haT hbT.2 rfl rfl).mono ?_
  rintro r E' H ⟨rfl, s, hI, hcase, hE', rfl⟩
  refine Ws.fresh hE' (fun B2 => ?_)
  have hbl := hI.bl
  have hbv := hI.bv bb (by omega)
  have hDl := hI.tr.len haT
  have mby : (b14, ABlk.cells (ints s.S) true) ∈ pS T v b14 b6 F s := List.mem_cons_of_mem _ (List.mem_cons_self ..)
  rcases hcase with hbn | ⟨hbn, hdone⟩
  rotate_left
  · have hbz : s.S.getD bb 0 = 0 := by rw [hbv]; exact byV_zero.2 hbn
    (repeat' (first | (first | refine Wo.nil ?_ | refine Wd.nil ?_ | ((first | refine Wo.cons ?_ | refine Wd.cons ?_); (try refine W1.go rfl rfl ?_); ((first | refine k1 ?_ | refine k2 ?_ | (refine isDst 136 ?_; refine W1.iaddrz bb rfl rfl rfl (by omega) ?_) | (refine isDst 137 ?_; refine W1.loadI (j := bb) (xs := s.S) rfl (by omega) mby (by omega) ?_) | (refine isDst 138 ?_; refine W1.cO ?_) | (refine isDst 142 ?_; refine W1.cO ?_) | refine W1.auto ?_) <;> (try refine ⟨fun _ => rfl, ?_⟩)))) | (first | refine Ws.seq ?_ | refine Ws.region ?_ | refine Ws.draw (fun bd hbd => ?_) | refine Ws.cond rfl ?_ | refine Ws.skip ?_ | refine Ws.scope ?_ | refine Ws.block ?_ | refine Ws.exit ?_ | refine Ws.ret ?_)))
    exact FnEnd.ret (F' := F) (vs := [_, _]) (.tmp rfl (.tmp rfl .nil)) (.cons _ (.cons _ (.cons _ (List.Sublist.refl _)))) ⟨[], .no (.inr ⟨_, clo_done hN hdone, decide_eq_true nodes_root, decide_eq_false hbn⟩), rfl⟩
  · have hbz : s.S.getD bb 0 ≠ 0 := by rw [hbv]; exact fun h => byV_zero.1 h hbn
    by_cases hab : ((aa : Nat) : Int) = ((bb : Nat) : Int)
    · (repeat' (first | (first | refine Wo.nil ?_ | refine Wd.nil ?_ | ((first | refine Wo.cons ?_ | refine Wd.cons ?_); (try refine W1.go rfl rfl ?_); ((first | refine k1 ?_ | refine k2 ?_ | (refine isDst 136 ?_; refine W1.iaddrz bb rfl rfl rfl (by omega) ?_) | (refine isDst 137 ?_; refine W1.loadI (j := bb) (xs := s.S) rfl (by omega) mby (by omega) ?_) | (refine isDst 138 ?_; refine W1.cO ?_) | (refine isDst 142 ?_; refine W1.cO ?_) | refine W1.auto ?_) <;> (try refine ⟨fun _ => rfl, ?_⟩)))) | (first | refine Ws.seq ?_ | refine Ws.region ?_ | refine Ws.draw (fun bd hbd => ?_) | refine Ws.cond rfl ?_ | refine Ws.skip ?_ | refine Ws.scope ?_ | refine Ws.block ?_ | refine Ws.exit ?_ | refine Ws.ret ?_)))
      exact FnEnd.ret (F' := F) (vs := [_, _]) (.tmp rfl (.tmp rfl .nil)) (.cons _ (.cons _ (.cons _ (List.Sublist.refl _)))) ⟨[], .no (.inl hab), rfl⟩
    · (repeat' (first | (first | refine Wo.nil ?_ | refine Wd.nil ?_ | ((first | refine Wo.cons ?_ | refine Wd.cons ?_); (try refine W1.go rfl rfl ?_); ((first | refine k1 ?_ | refine k2 ?_ | (refine isDst 136 ?_; refine W1.iaddrz bb rfl rfl rfl (by omega) ?_) | (refine isDst 137 ?_; refine W1.loadI (j := bb) (xs := s.S) rfl (by omega) mby (by omega) ?_) | (refine isDst 138 ?_; refine W1.cO ?_) | (refine isDst 142 ?_; refine W1.cO ?_) | refine W1.auto ?_) <;> (try refine ⟨fun _ => rfl, ?_⟩)))) | (first | refine Ws.seq ?_ | refine Ws.region ?_ | refine Ws.draw (fun bd hbd => ?_) | refine Ws.cond rfl ?_ | refine Ws.skip ?_ | refine Ws.scope ?_ | refine Ws.block ?_ | refine Ws.exit ?_ | refine Ws.ret ?_)))
      refine Ws.fresh (l := (5, .int .i64 most) :: (19, .int .i64 (bb : Nat)) :: [(1, xv), (2, .int .i64 (aa : Nat)), (3, .int .i64 (bb : Nat)), (6, .ptr (some (b6, 0))), (14, (AV.slc (some (b14, 0)) (T.toNat + 1) (T.toNat + 1) true 1))]) ⟨rfl, rfl, rfl, rfl, rfl, rfl, rfl, trivial⟩ (fun B3 => ?_)
      refine Ws.weak (List.sublist_cons_self _ _) ?_
      refine (f58_back (D := s.D) hN hr hx hxr haT hbl hI.bv hI.tr hbn hm.1).mono ?_
      rintro r E2 H ⟨rfl, m, m0, m1, m2, m3, hE2, rfl⟩
      refine Ws.fresh hE2 (fun B4 => ?_)
      have hne : wayT s.D (bb : Nat) ≠ [] := fun h => by
        have := hI.tr.way hbn
        rw [h] at this
        exact hab this.symm
      have hflen : 0 < fs.length := by
        cases h : wayT s.D (bb : Nat) with
        | nil => exact absurd h hne
        | cons h0 W => have := (hI.tr.hops (e := (bb : Nat)) h0 (by rw [h]; exact List.mem_cons_self ..)).1; omega
      obtain ⟨q1, q2, q3⟩ := hI.tr.sent hN.ne hbn hxr m0 m3
      (repeat' (first | (first | refine Wo.nil ?_ | refine Wd.nil ?_ | ((first | refine Wo.cons ?_ | refine Wd.cons ?_); (try refine W1.go rfl rfl ?_); ((first | refine k1 ?_ | refine k2 ?_ | (refine isDst 206 ?_; refine W1.bslice (l := ([] : List Int).map (.int .i64)) rfl (fun b5 hb5 => ?_)) | (refine isDst 208 ?_; refine W1.appRowI (as := []) (xs := x) rfl (List.mem_cons_self ..) rfl hx.cons.cons.cons rfl (by omega) (by simp; omega) (fun b22 hb22 => ?_)) | refine W1.auto ?_) <;> (try refine ⟨fun _ => rfl, ?_⟩)))) | (first | refine Ws.seq ?_ | refine Ws.region ?_ | refine Ws.draw (fun bd hbd => ?_) | refine Ws.cond rfl ?_ | refine Ws.skip ?_ | refine Ws.scope ?_ | refine Ws.block ?_ | refine Ws.exit ?_ | refine Ws.ret ?_)))
      have e1 : (([] : List Int) ++ x).length = fs.length := by rw [List.nil_append]; exact hxl
      rw [e1, List.nil_append]
      refine Ws.fresh (l := (23, .int .i64 (bb : Nat)) :: [(2, .int .i64 (aa : Nat)), (5, .int .i64 m), (6, .ptr (some (b6, 0))), (14, (AV.slc (some (b14, 0)) (T.toNat + 1) (T.toNat + 1) true 1)), (22, .slc (some (b22, 0)) fs.length fs.length false 1)]) ⟨rfl, rfl, rfl, rfl, rfl, rfl, trivial⟩ (fun B5 => ?_)
      refine Ws.weak (.cons_cons _ (List.sublist_cons_self _ _)) ?_
      refine (f58_send hN hr hxr haT hbl hI.bv hI.tr hbn hb22 m0 (by omega) m3).mono ?_
      rintro r E3 H ⟨rfl, hE3, rfl⟩
      refine Ws.fresh hE3 (fun B6 => ?_)
      (repeat' (first | (first | refine Wo.nil ?_ | refine Wd.nil ?_ | ((first | refine Wo.cons ?_ | refine Wd.cons ?_); (try refine W1.go rfl rfl ?_); ((first | refine k1 ?_ | refine k2 ?_ | (refine isDst 206 ?_; refine W1.bslice (l := ([] : List Int).map (.int .i64)) rfl (fun b5 hb5 => ?_)) | (refine isDst 208 ?_; refine W1.appRowI (as := []) (xs := x) rfl (List.mem_cons_self ..) rfl hx.cons.cons.cons rfl (by omega) (by simp; omega) (fun b22 hb22 => ?_)) | refine W1.auto ?_) <;> (try refine ⟨fun _ => rfl, ?_⟩)))) | (first | refine Ws.seq ?_ | refine Ws.region ?_ | refine Ws.draw (fun bd hbd => ?_) | refine Ws.cond rfl ?_ | refine Ws.skip ?_ | refine Ws.scope ?_ | refine Ws.block ?_ | refine Ws.exit ?_ | refine Ws.ret ?_)))
      exact FnEnd.ret (F' := [(b22, .cells (ints (pushW fs m x (wayT s.D (bb : Nat)))) true)] ++ F) (vs := [_, _]) (.tmp rfl (.tmp rfl .nil)) (.cons_cons _ (.cons _ (.cons _ (List.Sublist.refl _)))) ⟨_, .yes hb22 hab ⟨m0, m1, m2⟩ q1 q2 q3, rfl⟩
end Go.Ax
