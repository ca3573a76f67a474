/-
  Contracts: the reference's way: the search, whole.
-/
import Derived.Test.YtjcehnfhkgbpiaaXRF
namespace Go.Ax
set_option maxHeartbeats 1000000
set_option maxRecDepth 6000
set_option linter.unusedSimpArgs false
set_option linter.unusedVariables false
attribute [-simp] List.getD_eq_getElem?_getD
variable {lo : Nat} {F : Hp}
theorem f58_out {T : Int} {fs : List Fl} {x : List Int} {but a most : Int} {bb : Nat} {v xv : AV} {b14 b6 : Nat} {s0 : FS} {B : FE} (hN : Net T fs) (hr : FRow F v fs) (hx : RowI F xv x) (hxr : inRg fs x) (hb14 : lo ≤ b14) (h0 : PInv lo T fs x but a s0) (haT : 0 ≤ a ∧ a ≤ T) (hbT : (bb : Int) ≤ T) (hD0 : s0.D = []) (hQ0 : s0.Q = [a]) :
    Ws tblW lo none (af58.body.loopAt 0) (upds B ((15, s0.qv) :: [(1, xv), (2, .int .i64 a), (3, .int .i64 (bb : Nat)), (4, .int .i64 but), (5, .int .i64 most), (6, .ptr (some (b6, 0))), (14, (AV.slc (some (b14, 0)) (T.toNat + 1) (T.toNat + 1) true 1))])) (pS T v b14 b6 F s0)
      fun r E' H => r = .exit 0 ∧ ∃ s, PInv lo T fs x but a s ∧ (((bb : Nat) : Int) ∈ nodes a s.D ∨ (((bb : Nat) : Int) ∉ nodes a s.D ∧ ∀ t, t ∈ nodes a s.D → DoneR fs x but a s.D t fs.length)) ∧ Holds E' [(1, xv), (2, .int .i64 a), (3, .int .i64 (bb : Nat)), (4, .int .i64 but), (5, .int .i64 most), (6, .ptr (some (b6, 0))), (14, (AV.slc (some (b14, 0)) (T.toNat + 1) (T.toNat + 1) true 1))] ∧ H = pS T v b14 b6 F s := by
  show Ws tblW lo none (.loop _) _ _ _
  refine Ws.shrink ?_
  have hn := hN.n
  have hT := hN.t
  refine Ws.loopG (X := FS) (fun s => (15, s.qv) :: [(1, xv), (2, .int .i64 a), (3, .int .i64 (bb : Nat)), (4, .int .i64 but), (5, .int .i64 most), (6, .ptr (some (b6, 0))), (14, (AV.slc (some (b14, 0)) (T.toNat + 1) (T.toNat + 1) true 1))]) (fun s => pS T v b14 b6 F s) (fun s => PInv lo T fs x but a s ∧ s.Q.length ≤ s.D.length + 1 ∧ ∀ t, t ∈ nodes a s.D → t ∈ s.Q ∨ DoneR fs x but a s.D t fs.length) (fun s => 13 - s.D.length + s.Q.length) s0 ⟨rfl, rfl, rfl, rfl, rfl, rfl, rfl, rfl, trivial⟩ (List.Sublist.refl _) ⟨h0, by rw [hD0, hQ0]; simp, fun t ht => by rw [hD0] at ht; rw [hQ0]; simp only [nodes, List.map_nil, List.nil_append] at ht; exact .inl ht⟩ ?_
  rintro s B2 ⟨hI, hQl, hP⟩
  have hDl := hI.tr.len haT
  have hq := hI.q
  have hbl := hI.bl
  have hbv := hI.bv bb (by omega)
  have mby : (b14, ABlk.cells (ints s.S) true) ∈ pS T v b14 b6 F s := List.mem_cons_of_mem _ (List.mem_cons_self ..)
  rcases hQe : s.Q with _ | ⟨at', Q'⟩
  · rw [hQe] at hq hP
    have hz : (([] : List Int).length : Int) = 0 := rfl
    (repeat' (first | (first | refine Wo.nil ?_ | refine Wd.nil ?_ | ((first | refine Wo.cons ?_ | refine Wd.cons ?_); (try refine W1.go rfl rfl ?_); ((first | refine k1 ?_ | refine k2 ?_ | (refine isDst 38 ?_; refine hq.len rfl ?_) | (refine isDst 39 ?_; refine W1.cO ?_) | refine W1.auto ?_) <;> (try refine ⟨fun _ => rfl, ?_⟩)))) | (first | refine Ws.seq ?_ | refine Ws.region ?_ | refine Ws.draw (fun bd hbd => ?_) | refine Ws.cond rfl ?_ | refine Ws.skip ?_ | refine Ws.scope ?_ | refine Ws.block ?_ | refine Ws.exit ?_ | refine Ws.ret ?_)))
    refine ⟨_, List.Sublist.refl _, rfl, s, hI, ?_, ⟨rfl, rfl, rfl, rfl, rfl, rfl, rfl, trivial⟩, rfl⟩
    by_cases hm : ((bb : Nat) : Int) ∈ nodes a s.D
    · exact .inl hm
    · refine .inr ⟨hm, fun t ht => ?_⟩
      rcases hP t ht with h | h
      · cases h
      · exact h
  · rw [hQe] at hq hP hQl
    have hatn : at' ∈ nodes a s.D := hI.qs _ (by rw [hQe]; exact List.mem_cons_self ..)
    have hlen : ((at' :: Q').length : Int) = Q'.length + 1 := by simp
    by_cases hbz : s.S.getD bb 0 = 0
    · (repeat' (first | (first | refine Wo.nil ?_ | refine Wd.nil ?_ | ((first | refine Wo.cons ?_ | refine Wd.cons ?_); (try refine W1.go rfl rfl ?_); ((first | refine k1 ?_ | refine k2 ?_ | (refine isDst 38 ?_; refine hq.len rfl ?_) | (refine isDst 39 ?_; refine W1.cO ?_) | (refine isDst 48 ?_; refine hq.head rfl rfl (fun hh => ?_)) | (refine isDst 49 ?_; refine W1.load1 rfl (List.mem_cons_self ..) hh ?_) | (refine isDst 51 ?_; refine hq.pop rfl rfl (fun v' hq' => ?_)) | (refine isDst 43 ?_; refine W1.iaddrz bb rfl rfl rfl (by omega) ?_) | (refine isDst 44 ?_; refine W1.loadI (j := bb) (xs := s.S) rfl (by omega) mby (by omega) ?_) | (refine isDst 45 ?_; refine W1.cO ?_) | refine W1.auto ?_) <;> (try refine ⟨fun _ => rfl, ?_⟩)))) | (first | refine Ws.seq ?_ | refine Ws.region ?_ | refine Ws.draw (fun bd hbd => ?_) | refine Ws.cond rfl ?_ | refine Ws.skip ?_ | refine Ws.scope ?_ | refine Ws.block ?_ | refine Ws.exit ?_ | refine Ws.ret ?_)))
      have hI1 : PInv lo T fs x but a { s with qv := v', qo := s.qo + 1, Q := Q' } := ⟨hI.tr, hI.bl, hI.bv, hq', hI.qb, fun t ht => hI.qs t (by rw [hQe]; exact List.mem_cons_of_mem _ ht)⟩
      refine Ws.fresh (l := (15, v') :: (17, .int .i64 0) :: (16, .int .i64 at') :: [(1, xv), (2, .int .i64 a), (3, .int .i64 (bb : Nat)), (4, .int .i64 but), (5, .int .i64 most), (6, .ptr (some (b6, 0))), (14, (AV.slc (some (b14, 0)) (T.toNat + 1) (T.toNat + 1) true 1))]) ⟨rfl, rfl, rfl, rfl, rfl, rfl, rfl, rfl, rfl, rfl, trivial⟩ (fun B3 => ?_)
      refine (f58_in (b := (bb : Nat)) (most := most) hN hr hx hxr hb14 hI1 haT hatn (by have : Q'.length + 1 ≤ s.D.length + 1 := hQl; show Q'.length ≤ 20; omega)).mono ?_
      rintro r E' H ⟨rfl, s2, hI2, hR2, hD2, hE', rfl⟩
      have hl := hR2.l
      have hDl2 := hI2.tr.len haT
      dsimp only at hl
      have hQl' : Q'.length + 1 ≤ s.D.length + 1 := hQl
      refine ⟨s2, hE', List.Sublist.refl _, ⟨hI2, by omega, fun t ht => ?_⟩, by simp only [List.length_cons]; omega⟩
      rcases hR2.n t ht with h | h
      · rcases hP t h with h | h
        · rcases List.mem_cons.1 h with rfl | h
          · exact .inr hD2
          · exact .inl (hR2.q t h)
        · exact .inr (h.mono hR2.d)
      · exact .inl h
    · (repeat' (first | (first | refine Wo.nil ?_ | refine Wd.nil ?_ | ((first | refine Wo.cons ?_ | refine Wd.cons ?_); (try refine W1.go rfl rfl ?_); ((first | refine k1 ?_ | refine k2 ?_ | (refine isDst 38 ?_; refine hq.len rfl ?_) | (refine isDst 39 ?_; refine W1.cO ?_) | (refine isDst 48 ?_; refine hq.head rfl rfl (fun hh => ?_)) | (refine isDst 49 ?_; refine W1.load1 rfl (List.mem_cons_self ..) hh ?_) | (refine isDst 51 ?_; refine hq.pop rfl rfl (fun v' hq' => ?_)) | (refine isDst 43 ?_; refine W1.iaddrz bb rfl rfl rfl (by omega) ?_) | (refine isDst 44 ?_; refine W1.loadI (j := bb) (xs := s.S) rfl (by omega) mby (by omega) ?_) | (refine isDst 45 ?_; refine W1.cO ?_) | refine W1.auto ?_) <;> (try refine ⟨fun _ => rfl, ?_⟩)))) | (first | refine Ws.seq ?_ | refine Ws.region ?_ | refine Ws.draw (fun bd hbd => ?_) | refine Ws.cond rfl ?_ | refine Ws.skip ?_ | refine Ws.scope ?_ | refine Ws.block ?_ | refine Ws.exit ?_ | refine Ws.ret ?_)))
      refine ⟨_, List.Sublist.refl _, rfl, s, hI, .inl ?_, ⟨rfl, rfl, rfl, rfl, rfl, rfl, rfl, trivial⟩, rfl⟩
      exact Decidable.byContradiction fun h => hbz (by rw [hbv]; exact byV_zero.2 h)
theorem byV_split {fs : List Fl} {a : Int} {D : List Cm} {e : Int} {i : Nat} {b : Int} (hne : e ≠ a) (h : dv D e = some (i, b)) : byV fs a D e = if (gF fs i).f = b then (i : Int) + 1 else -((i : Int) + 1) := by
  unfold byV; rw [if_neg hne, h]
structure WInv (T : Int) (fs : List Fl) (x : List Int) (but a : Int) (D : List Cm) (e at' : Int) (W : List Hop) (D' : List Cm) : Prop where
  tr : Tr T fs x but a D'
  hat : at' ∈ nodes a D'
  w : wayT D e = W ++ wayT D' at'
  m : ∀ u, u ∈ nodes a D' → dv D u = dv D' u
structure WS where
  at' : Int
  W : List Hop
  m : Int
  D' : List Cm
theorem wayT_root {T : Int} {fs : List Fl} {x : List Int} {but a : Int} : ∀ {D : List Cm}, Tr T fs x but a D → wayT D a = [] := by
  intro D k
  induction k with
  | nil => rfl
  | cons k ht _ _ _ _ _ _ _ ih => rw [wayT_tail (fun h => ht (by rw [h]; exact nodes_root))]; exact ih
theorem WInv.step {T : Int} {fs : List Fl} {x : List Int} {but a : Int} {D D' : List Cm} {e at' : Int} {W : List Hop} (h : WInv T fs x but a D e at' W D') (hne : at' ≠ a) : ∃ i b D2, WInv T fs x but a D e b (W ++ [(i, b)]) D2 ∧ dv D at' = some (i, b) ∧ D2.length < D'.length ∧ i < fs.length ∧ 0 < roomR fs x i b := by
  obtain ⟨i, b, D2, p1, p2, p3, p4, p5, p6, p7, p8, p9, p10⟩ := h.tr.split h.hat hne
  refine ⟨i, b, D2, ⟨p1, p2, by rw [h.w, p3, List.append_assoc]; rfl, fun u hu => by rw [h.m u (p10 u hu), p6 u hu]⟩, by rw [h.m at' h.hat, p4], p7, p8, p9⟩
theorem f58_back {T : Int} {fs : List Fl} {x BY : List Int} {but a most : Int} {bb : Nat} {D : List Cm} {v xv : AV} {b14 b6 : Nat} {B : FE} (hN : Net T fs) (hr : FRow F v fs) (hx : RowI F xv x) (hxr : inRg fs x) (haT : 0 ≤ a ∧ a ≤ T) (hbl : BY.length = T.toNat + 1) (hbv : ∀ t : Nat, t < T.toNat + 1 → BY.getD t 0 = byV fs a D (t : Nat)) (hD : Tr T fs x but a D) (hbn : ((bb : Nat) : Int) ∈ nodes a D) (hm0 : 0 ≤ most) :
    Ws tblW lo none (af58.body.loopAt 2) (upds B ((5, .int .i64 most) :: (19, .int .i64 (bb : Nat)) :: [(1, xv), (2, .int .i64 a), (3, .int .i64 (bb : Nat)), (6, .ptr (some (b6, 0))), (14, (AV.slc (some (b14, 0)) (T.toNat + 1) (T.toNat + 1) true 1))])) ((b14, .cells (ints BY) true) :: (b6, .cells [.int .i64 T, v] true) :: F)
      fun r E' H => r = .exit 4 ∧ ∃ m, 0 ≤ m ∧ m ≤ most ∧ (0 < most → 0 < m) ∧ (∀ h ∈ wayT D (bb : Nat), m ≤ roomR fs x h.1 h.2) ∧ Holds E' ((5, .int .i64 m) :: [(1, xv), (2, .int .i64 a), (3, .int .i64 (bb : Nat)), (6, .ptr (some (b6, 0))), (14, (AV.slc (some (b14, 0)) (T.toNat + 1) (T.toNat + 1) true 1))]) ∧ H = ((b14, .cells (ints BY) true) :: (b6, .cells [.int .i64 T, v] true) :: F) := by
  show Ws tblW lo none (.loop _) _ _ _
  refine Ws.shrink ?_
  have hn := hN.n
  have hT := hN.t
  refine Ws.loopG (X := WS) (fun s => (5, .int .i64 s.m) :: (19, .int .i64 s.at') :: [(1, xv), (2, .int .i64 a), (3, .int .i64 (bb : Nat)), (6, .ptr (some (b6, 0))), (14, (AV.slc (some (b14, 0)) (T.toNat + 1) (T.toNat + 1) true 1))]) (fun _ => ((b14, .cells (ints BY) true) :: (b6, .cells [.int .i64 T, v] true) :: F)) (fun s => WInv T fs x but a D (bb : Nat) s.at' s.W s.D' ∧ 0 ≤ s.m ∧ s.m ≤ most ∧ (0 < most → 0 < s.m) ∧ ∀ h ∈ s.W, s.m ≤ roomR fs x h.1 h.2) (fun s => s.D'.length) ⟨(bb : Nat), [], most, D⟩ ⟨rfl, rfl, rfl, rfl, rfl, rfl, rfl, trivial⟩ (List.Sublist.refl _) ⟨⟨hD, hbn, rfl, fun _ _ => rfl⟩, hm0, Int.le_refl _, fun h => h, fun h hh => (by cases hh)⟩ ?_
  rintro ⟨at', W, m, D'⟩ B2 ⟨hI, m0, m1, m2, m3⟩
  dsimp only at hI m0 m1 m2 m3 ⊢
  by_cases hne : at' = a
  · have hwe : wayT D (bb : Nat) = W := by rw [hI.w, hne, wayT_root hI.tr, List.append_nil]
    (repeat' (first | (first | refine Wo.nil ?_ | refine Wd.nil ?_ | ((first | refine Wo.cons ?_ | refine Wd.cons ?_); (try refine W1.go rfl rfl ?_); ((first | refine k1 ?_ | refine k2 ?_ | (refine isDst 148 ?_; refine W1.cO ?_) | refine W1.auto ?_) <;> (try refine ⟨fun _ => rfl, ?_⟩)))) | (first | refine Ws.seq ?_ | refine Ws.region ?_ | refine Ws.draw (fun bd hbd => ?_) | refine Ws.cond rfl ?_ | refine Ws.skip ?_ | refine Ws.scope ?_ | refine Ws.block ?_ | refine Ws.exit ?_ | refine Ws.ret ?_)))
    exact ⟨_, List.Sublist.refl _, rfl, m, m0, m1, m2, by rw [hwe]; exact m3, ⟨rfl, rfl, rfl, rfl, rfl, rfl, trivial⟩, rfl⟩
  · obtain ⟨i, c, D2, q1, q2, q3, q4, q5⟩ := hI.step hne
    have hatT := hI.tr.node_range haT at' hI.hat
    obtain ⟨ta, rfl⟩ : ∃ ta : Nat, at' = (ta : Nat) := ⟨at'.toNat, by omega⟩
    have hby := hbv ta (by omega)
    rw [byV_split hne q2] at hby
    have hu := hN.u i q4
    have hxi := hxr.2 i q4
    have hxl : i < x.length := by rw [hxr.1]; exact q4
    have hfrow : FRow ((b14, .cells (ints BY) true) :: (b6, .cells [.int .i64 T, v] true) :: F) v fs := hr.cons.cons
    have hxrow : ∀ {c : Nat × ABlk}, RowI (c :: ((b14, .cells (ints BY) true) :: (b6, .cells [.int .i64 T, v] true) :: F)) xv x := fun {c} => hx.cons.cons.cons
    have mby : (b14, ABlk.cells (ints BY) true) ∈ ((b14, .cells (ints BY) true) :: (b6, .cells [.int .i64 T, v] true) :: F) := List.mem_cons_self ..
    have mby2 : ∀ {c : Nat × ABlk}, (b14, ABlk.cells (ints BY) true) ∈ c :: ((b14, .cells (ints BY) true) :: (b6, .cells [.int .i64 T, v] true) :: F) := fun {c} => List.mem_cons_of_mem _ (List.mem_cons_self ..)
    have mb6 : (b6, ABlk.cells [.int .i64 T, v] true) ∈ ((b14, .cells (ints BY) true) :: (b6, .cells [.int .i64 T, v] true) :: F) := List.mem_cons_of_mem _ (List.mem_cons_self ..)
    have hw2 : ∀ h ∈ W ++ [(i, c)], min m (roomR fs x i c) ≤ roomR fs x h.1 h.2 := fun h hh => by
      rcases List.mem_append.1 hh with hh | hh
      · have := m3 h hh; omega
      · rw [List.mem_singleton] at hh; subst hh; show min m (roomR fs x i c) ≤ roomR fs x i c; omega
    by_cases hfb : (gF fs i).f = c
    · have hby' : BY.getD ta 0 = (i : Int) + 1 := by rw [hby, if_pos hfb]
      have hrm : roomR fs x i c = (gF fs i).hi - x.getD i 0 := by unfold roomR; rw [if_pos hfb]
      rw [hrm] at q5 hw2
      (repeat' (first | (first | refine Wo.nil ?_ | refine Wd.nil ?_ | ((first | refine Wo.cons ?_ | refine Wd.cons ?_); (try refine W1.go rfl rfl ?_); ((first | refine k1 ?_ | refine k2 ?_ | (refine isDst 148 ?_; refine W1.cO ?_) | (refine isDst 151 ?_; refine W1.iaddrz ta rfl rfl rfl (by omega) ?_) | (refine isDst 152 ?_; refine W1.loadI (j := ta) (xs := BY) rfl (by omega) mby (by omega) ?_; rw [hby']) | (refine isDst 153 ?_; refine W1.cO ?_) | (refine isDst 155 ?_; refine W1.load1R rfl mb6 rfl (ltAll (by assumption) mb6) ?_) | (refine isDst 158 ?_; refine W1.iaddrz ta rfl rfl rfl (by omega) ?_) | (refine isDst 159 ?_; refine W1.loadIR (j := ta) (xs := BY) rfl (by omega) mby (by omega) (ltAll (by assumption) mby) ?_; rw [hby']) | (refine isDst 161 ?_; refine W1.iaddrF i hfrow rfl rfl (by omega) q4 (fun b o la own hm h0 h1 h2 h3 h4 h5 => ?_)) | (refine isDst 162 ?_; refine W1.loadR rfl hm h4 (ltAll (by assumption) hm) ?_) | (refine isDst 20 ?_; refine W1.alloc (fun b20 hb20 => ?_)) | (refine isDst 170 ?_; refine W1.iaddrz ta rfl rfl rfl (by omega) ?_) | (refine isDst 171 ?_; refine W1.loadI (j := ta) (xs := BY) rfl (by omega) mby2 (by omega) ?_; rw [hby']) | (refine isDst 173 ?_; refine W1.iaddrIz i hxrow rfl rfl (by omega) hxl (fun b o l' own hm h1 => ?_)) | (refine isDst 174 ?_; refine W1.load1 rfl hm h1 ?_) | refine W1.auto ?_) <;> (try refine ⟨fun _ => rfl, ?_⟩)))) | (first | refine Ws.seq ?_ | refine Ws.region ?_ | refine Ws.draw (fun bd hbd => ?_) | refine Ws.cond rfl ?_ | refine Ws.skip ?_ | refine Ws.scope ?_ | refine Ws.block ?_ | refine Ws.exit ?_ | refine Ws.ret ?_)))
      refine ⟨⟨c, W ++ [((i, c) : Hop)], min m ((gF fs i).hi - x.getD i 0), D2⟩, ⟨rfl, by rw [← hfb]; rfl, rfl, rfl, rfl, rfl, rfl, trivial⟩, .cons _ (List.Sublist.refl _), ⟨q1, by show 0 ≤ min m _; omega, by show min m _ ≤ most; omega, fun h => by have := m2 h; show 0 < min m _; omega, hw2⟩, q3⟩
    · have hby' : BY.getD ta 0 = -((i : Int) + 1) := by rw [hby, if_neg hfb]
      obtain ⟨he, _⟩ := room_end q5
      have htb : (gF fs i).t = c := by rcases he with h | h; exact absurd h hfb; exact h
      have hrm : roomR fs x i c = x.getD i 0 - (gF fs i).lo := by unfold roomR; rw [if_neg hfb, if_pos htb]
      rw [hrm] at q5 hw2
      (repeat' (first | (first | refine Wo.nil ?_ | refine Wd.nil ?_ | ((first | refine Wo.cons ?_ | refine Wd.cons ?_); (try refine W1.go rfl rfl ?_); ((first | refine k1 ?_ | refine k2 ?_ | (refine isDst 148 ?_; refine W1.cO ?_) | (refine isDst 151 ?_; refine W1.iaddrz ta rfl rfl rfl (by omega) ?_) | (refine isDst 152 ?_; refine W1.loadI (j := ta) (xs := BY) rfl (by omega) mby (by omega) ?_; rw [hby']) | (refine isDst 153 ?_; refine W1.cO ?_) | (refine isDst 180 ?_; refine W1.load1R rfl mb6 rfl (ltAll (by assumption) mb6) ?_) | (refine isDst 183 ?_; refine W1.iaddrz ta rfl rfl rfl (by omega) ?_) | (refine isDst 184 ?_; refine W1.loadIR (j := ta) (xs := BY) rfl (by omega) mby (by omega) (ltAll (by assumption) mby) ?_; rw [hby']) | (refine isDst 187 ?_; refine W1.iaddrF i hfrow rfl rfl (by omega) q4 (fun b o la own hm h0 h1 h2 h3 h4 h5 => ?_)) | (refine isDst 188 ?_; refine W1.loadR rfl hm h4 (ltAll (by assumption) hm) ?_) | (refine isDst 21 ?_; refine W1.alloc (fun b21 hb21 => ?_)) | (refine isDst 193 ?_; refine W1.iaddrz ta rfl rfl rfl (by omega) ?_) | (refine isDst 194 ?_; refine W1.loadI (j := ta) (xs := BY) rfl (by omega) mby2 (by omega) ?_; rw [hby']) | (refine isDst 197 ?_; refine W1.iaddrIz i hxrow rfl rfl (by omega) hxl (fun b o l' own hm h1 => ?_)) | (refine isDst 198 ?_; refine W1.load1 rfl hm h1 ?_) | refine W1.auto ?_) <;> (try refine ⟨fun _ => rfl, ?_⟩)))) | (first | refine Ws.seq ?_ | refine Ws.region ?_ | refine Ws.draw (fun bd hbd => ?_) | refine Ws.cond rfl ?_ | refine Ws.skip ?_ | refine Ws.scope ?_ | refine Ws.block ?_ | refine Ws.exit ?_ | refine Ws.ret ?_)))
      refine ⟨⟨c, W ++ [((i, c) : Hop)], min m (x.getD i 0 - (gF fs i).lo), D2⟩, ⟨rfl, by rw [← htb]; rfl, rfl, rfl, rfl, rfl, rfl, trivial⟩, .cons _ (List.Sublist.refl _), ⟨q1, by show 0 ≤ min m _; omega, by show min m _ ≤ most; omega, fun h => by have := m2 h; show 0 < min m _; omega, hw2⟩, q3⟩
end Go.Ax
