/-
  Contracts: looking for a way: the way back, and what is sent on it; the whole.
-/
import Derived.Test.YtjcehnfhkgbpiaaXNT
namespace Go.Ax
set_option maxHeartbeats 1000000
set_option maxRecDepth 6000
set_option linter.unusedSimpArgs false
set_option linter.unusedVariables false
attribute [-simp] List.getD_eq_getElem?_getD
variable {lo : Nat} {F : Hp}
abbrev hopc (h : Hop) : List AV := [.int .i64 h.1, .int .i64 h.2]
theorem hopc_len (h : Hop) : (hopc h).length = 2 := rfl
structure BInv (lo : Nat) (T : Int) (fs : List Fl) (x : List Int) (but a e most0 : Int) (D : List Cm) (at' : Int) (W : List Hop) (most : Int) (D' : List Cm) (L : List (Int × Hop × Nat)) : Prop where
  tr : Tr T fs x but a D'
  hat : at' ∈ nodes a D'
  w : wayT D e = W ++ wayT D' at'
  m : ∀ u, u ∈ nodes a D' → mv L u = dv D' u
  le : most ≤ most0
  ps : 0 < most
  rm : ∀ h ∈ W, most ≤ roomR fs x h.1 h.2
  wl : W.length + D'.length ≤ 40
structure PS where
  at' : Int
  W : List Hop
  most : Int
  D' : List Cm
  L : List (Int × Hop × Nat)
  c : Nat
  wv : AV
  Fw : Hp
theorem f78_back {T : Int} {fs : List Fl} {x S : List Int} {but a e most0 : Int} {D : List Cm} {L0 : List (Int × Hop × Nat)} {c0 : Nat} {v : AV} {bk bx bm : Nat} {B : FE} (hN : Net T fs) (hr : FRow F v fs) (hxr : inRg fs x) (hbk : lo ≤ bk) (hbm : lo ≤ bm) (haT : 0 ≤ a ∧ a ≤ T) (h0 : BInv lo T fs x but a e most0 D e [] most0 D L0) :
    Ws tblW lo none (af78.body.loopAt 2) (upds B ((3, .int .i64 most0) :: (19, .slc none 0 0 true 0) :: (20, .int .i64 e) :: [(0, .ptr (some (bk, 0))), (1, .int .i64 a), (12, .map (some bm)), (14, .int .i64 e)])) ((bm, .map (ents key1 hopv L0) c0) :: ((bk, ABlk.cells (bookC T v (AV.slc (some (bx, 0)) x.length x.length false 1) S) true) :: (bx, ABlk.cells (ints x) true) :: F))
      fun r E' H => r = .exit 4 ∧ ∃ most wv Fw, (∀ h ∈ wayT D e, most ≤ roomR fs x h.1 h.2) ∧ 0 < most ∧ most ≤ most0 ∧ OwnZ hopc 2 lo false wv Fw (wayT D e) ∧ Holds E' ((3, .int .i64 most) :: (19, wv) :: [(0, .ptr (some (bk, 0))), (14, .int .i64 e)]) ∧ H = Fw ++ ((bk, ABlk.cells (bookC T v (AV.slc (some (bx, 0)) x.length x.length false 1) S) true) :: (bx, ABlk.cells (ints x) true) :: F) := by
  show Ws tblW lo none (.loop _) _ _ _
  refine Ws.shrink ?_
  have hn := hN.n
  have hT := hN.t
  refine Ws.loopG (X := PS) (fun s => (3, .int .i64 s.most) :: (19, s.wv) :: (20, .int .i64 s.at') :: [(0, .ptr (some (bk, 0))), (1, .int .i64 a), (12, .map (some bm)), (14, .int .i64 e)]) (fun s => s.Fw ++ ((bm, .map (ents key1 hopv s.L) s.c) :: ((bk, ABlk.cells (bookC T v (AV.slc (some (bx, 0)) x.length x.length false 1) S) true) :: (bx, ABlk.cells (ints x) true) :: F))) (fun s => BInv lo T fs x but a e most0 D s.at' s.W s.most s.D' s.L ∧ OwnZ hopc 2 lo false s.wv s.Fw s.W) (fun s => s.D'.length) ⟨e, [], most0, D, L0, c0, .slc none 0 0 true 0, []⟩ ⟨rfl, rfl, rfl, rfl, rfl, rfl, rfl, trivial⟩ (List.Sublist.refl _) ⟨h0, .nil⟩ ?_
  rintro ⟨at', W, most, D', L, c, wv, Fw⟩ B2 ⟨hI, hw⟩
  dsimp only at hI hw ⊢
  by_cases hne : at' = a
  · have hwe : wayT D e = W := by
      rw [hI.w, hne]
      have : ∀ {D : List Cm}, Tr T fs x but a D → wayT D a = [] := by
        intro D k
        induction k with
        | nil => rfl
        | cons k ht _ _ _ _ _ _ _ ih => rw [wayT_tail (fun h => ht (by rw [h]; exact nodes_root))]; exact ih
      rw [this hI.tr, List.append_nil]
    (repeat' (first | (first | refine Wo.nil ?_ | refine Wd.nil ?_ | ((first | refine Wo.cons ?_ | refine Wd.cons ?_); (try refine W1.go rfl rfl ?_); ((first | refine k1 ?_ | refine k2 ?_ | (refine isDst 102 ?_; refine W1.cO ?_) | refine W1.auto ?_) <;> (try refine ⟨fun _ => rfl, ?_⟩)))) | (first | refine Ws.seq ?_ | refine Ws.region ?_ | refine Ws.draw (fun bd hbd => ?_) | refine Ws.cond rfl ?_ | refine Ws.skip ?_ | refine Ws.scope ?_ | refine Ws.block ?_ | refine Ws.exit ?_ | refine Ws.ret ?_)))
    exact ⟨Fw ++ ((bk, ABlk.cells (bookC T v (AV.slc (some (bx, 0)) x.length x.length false 1) S) true) :: (bx, ABlk.cells (ints x) true) :: F), List.Sublist.append (List.Sublist.refl _) (.cons _ (List.Sublist.refl _)), rfl, most, wv, Fw, by rw [hwe]; exact hI.rm, hI.ps, hI.le, by rw [hwe]; exact hw, ⟨rfl, rfl, rfl, rfl, trivial⟩, rfl⟩
  · obtain ⟨i, b, D2, p1, p2, p3, p4, p5, p6, p7, p8, p9, p10⟩ := hI.tr.split hI.hat hne
    have hmv := hI.m at' hI.hat
    rw [p4] at hmv
    obtain ⟨j, hmf⟩ := mv_some hmv
    have hmval : mval hopv (.agg [.int .i64 0, .int .i64 0]) L at' = .agg [.int .i64 (i : Nat), .int .i64 b] := by unfold mval; rw [hmf]; rfl
    have hwl := hI.wl
    have hrp : 0 < roomR fs x i b := p9
    have c82 : ∀ {c d m : Nat × ABlk} {G : Hp} , Pure tblW (fnv 82) [.ptr (some (bk, 0)), .int .i64 (i : Nat), .int .i64 b] (G ++ (d :: c :: m :: ((bk, ABlk.cells (bookC T v (AV.slc (some (bx, 0)) x.length x.length false 1) S) true) :: (bx, ABlk.cells (ints x) true) :: F))) (rv1 (roomR fs x i b, toR fs i b)) := fun {c d m G} => f82_ok hN (List.mem_append_right _ (List.mem_cons_of_mem _ (List.mem_cons_of_mem _ (List.mem_cons_of_mem _ (List.mem_cons_self ..))))) hr.cons.cons.cons.cons.cons.app (RowI.lit (List.mem_append_right _ (List.mem_cons_of_mem _ (List.mem_cons_of_mem _ (List.mem_cons_of_mem _ (List.mem_cons_of_mem _ (List.mem_cons_self ..)))))) rfl) hxr p8
    have hnew : BInv lo T fs x but a e most0 D b (W ++ [(i, b)]) (min most (roomR fs x i b)) D2 (L.eraseIdx j) := ⟨p1, p2, by rw [hI.w, p3, List.append_assoc]; rfl, fun u hu => by rw [mv_erase hmf (fun h => p5 (by rw [← h]; exact hu)), hI.m u (p10 u hu), p6 u hu], by have := hI.le; omega, by have := hI.ps; omega, fun h hh => by
      rcases List.mem_append.1 hh with hh | hh
      · have := hI.rm h hh; omega
      · rw [List.mem_singleton] at hh; subst hh; show min most (roomR fs x i b) ≤ roomR fs x i b; omega, by simp; omega⟩
    generalize roomR fs x i b = rm at *
    generalize toR fs i b = tt at *
    (repeat' (first | (first | refine Wo.nil ?_ | refine Wd.nil ?_ | ((first | refine Wo.cons ?_ | refine Wd.cons ?_); (try refine W1.go rfl rfl ?_); ((first | refine k1 ?_ | refine k2 ?_ | (refine isDst 102 ?_; refine W1.cO ?_) | (refine isDst 105 ?_; refine W1.lookM (kf := key1) (vf := hopv) at' key1_ok rfl rfl (List.mem_append_right _ (List.mem_cons_self ..)) ?_; rw [hmval]) | (refine isDst 21 ?_; refine W1.alloc (fun b21 hb21 => ?_)) | refine W1.delM (kf := key1) (vf := hopv) at' key1_ok rfl rfl hmf inU hbm ?_ | (refine isDst 110 ?_; refine W1.lenZ (hw.rowZ hopc_len (List.subset_cons_of_subset _ (List.subset_append_left _ _))) rfl ?_) | (refine isDst 112 ?_; refine W1.lenZ (hw.rowZ hopc_len (List.subset_cons_of_subset _ (List.subset_append_left _ _))) rfl ?_) | (refine isDst 113 ?_; refine W1.slcFullZ hw rfl rfl rfl (fun wv1 hw1 => ?_)) | (refine isDst 114 ?_; refine W1.loadA rfl (List.mem_cons_self ..) rfl ?_) | (refine isDst 115 ?_; refine W1.bslice (l := hopc (i, b)) (fill_all (catF2 rfl catF0) rfl) (fun b115 hb115 => ?_)) | (refine isDst 116 ?_; refine W1.appZ (F1 := [_, _]) (z := (i, b)) hopc_len rfl hw1 rfl rfl (List.mem_cons_self ..) rfl (by decide) (by omega) (fun w Fw' hw' => ?_); simp only [List.cons_append, List.nil_append]) | (refine isDst 120 ?_; refine W1.load1 rfl (List.mem_append_right _ (List.mem_cons_of_mem _ (List.mem_cons_self ..))) rfl ?_) | (refine isDst 122 ?_; refine W1.load1 rfl (List.mem_append_right _ (List.mem_cons_of_mem _ (List.mem_cons_self ..))) rfl ?_) | (refine isDst 130 ?_; refine W1.load1 rfl (List.mem_append_right _ (List.mem_cons_of_mem _ (List.mem_cons_self ..))) rfl ?_) | (refine isDst 123 ?_; refine W1.pure rfl rfl c82 ?_) | refine W1.auto ?_) <;> (try refine ⟨fun _ => rfl, ?_⟩)))) | (first | refine Ws.seq ?_ | refine Ws.region ?_ | refine Ws.draw (fun bd hbd => ?_) | refine Ws.cond rfl ?_ | refine Ws.skip ?_ | refine Ws.scope ?_ | refine Ws.block ?_ | refine Ws.exit ?_ | refine Ws.ret ?_)))
    refine ⟨⟨b, W ++ [(i, b)], min most rm, D2, L.eraseIdx j, c, w, Fw'⟩, ⟨rfl, rfl, rfl, rfl, rfl, rfl, rfl, trivial⟩, List.Sublist.append (List.Sublist.refl _) (.cons _ (.cons _ (List.Sublist.refl _))), ⟨hnew, hw'⟩, p7⟩
theorem pushW_snoc {fs : List Fl} {m : Int} {x : List Int} {W : List Hop} {h : Hop} : pushW fs m x (W ++ [h]) = push1 fs m (pushW fs m x W) h := by
  unfold pushW; rw [List.foldl_append]; rfl
theorem f78_send {T : Int} {fs : List Fl} {x S : List Int} {m e : Int} {W : List Hop} {v wv : AV} {Fw : Hp} {bk bx : Nat} {B : FE} (hN : Net T fs) (hr : FRow F v fs) (hxr : inRg fs x) (hbk : lo ≤ bk) (hbx : lo ≤ bx) (hm : 0 < m ∧ m ≤ 100000000) (hw : OwnZ hopc 2 lo false wv Fw W) (hwl : W.length ≤ 1000) (hW : ∀ h ∈ W, h.1 < fs.length ∧ m ≤ roomR fs x h.1 h.2) (hnd : (W.map (·.1)).Nodup) :
    Ws tblW lo none (af78.body.loopAt 3) (upds B ((133, .int .i64 0) :: [(0, .ptr (some (bk, 0))), (3, .int .i64 m), (14, .int .i64 e), (131, wv), (132, .int .i64 W.length)])) (Fw ++ ((bk, ABlk.cells (bookC T v (AV.slc (some (bx, 0)) x.length x.length false 1) S) true) :: (bx, ABlk.cells (ints x) true) :: F))
      fun r E' H => r = .exit 6 ∧ Holds E' [(3, .int .i64 m), (14, .int .i64 e)] ∧ H = (bk, ABlk.cells (bookC T v (AV.slc (some (bx, 0)) x.length x.length false 1) S) true) :: (bx, ABlk.cells (ints (pushW fs m x W)) true) :: F := by
  show Ws tblW lo none (.loop _) _ _ _
  refine Ws.shrink ?_
  have hn := hN.n
  have hpre : ∀ i, inRg fs (pushW fs m x (W.take i)) := fun i => pushW_inRg (by omega) hxr (fun h hh => hW h (List.mem_of_mem_take hh)) (by rw [List.map_take]; exact hnd.sublist (List.take_sublist _ _))
  refine Ws.loopG (X := Nat) (fun i => (133, .int .i64 (i : Nat)) :: [(0, .ptr (some (bk, 0))), (3, .int .i64 m), (14, .int .i64 e), (131, wv), (132, .int .i64 W.length)]) (fun i => (Fw ++ ((bk, ABlk.cells (bookC T v (AV.slc (some (bx, 0)) x.length x.length false 1) S) true) :: (bx, ABlk.cells (ints (pushW fs m x (W.take i))) true) :: F))) (fun i => i ≤ W.length) (fun i => W.length - i) 0 ⟨rfl, rfl, rfl, rfl, rfl, rfl, trivial⟩ (List.Sublist.refl _) (Nat.zero_le _) ?_
  rintro i B2 hi
  by_cases hic : i < W.length
  · obtain ⟨h, hh⟩ : ∃ h : Hop, W.getD i default = h := ⟨_, rfl⟩
    have hmem : h ∈ W := by rw [← hh]; simp only [List.getD, List.getElem?_eq_getElem hic, Option.getD_some]; exact List.getElem_mem hic
    obtain ⟨hf, _⟩ := hW h hmem
    have htk : pushW fs m x (W.take (i + 1)) = push1 fs m (pushW fs m x (W.take i)) h := by rw [take_snoc hic, hh, pushW_snoc]
    have hX := hpre i
    have hlx : (pushW fs m x (W.take i)).length = x.length := pushW_len
    have hxl : x.length = fs.length := hxr.1
    have hu := hN.u h.1 hf
    generalize eX : pushW fs m x (W.take i) = X at *
    have hXi := hX.2 h.1 hf
    have hXl : h.1 < X.length := by omega
    have hxl2 : h.1 < x.length := by omega
    have hrow : RowZ hopc 2 (Fw ++ ((bk, ABlk.cells (bookC T v (AV.slc (some (bx, 0)) x.length x.length false 1) S) true) :: (bx, ABlk.cells (ints X) true) :: F)) wv W := hw.rowZ hopc_len (List.subset_append_left _ _)
    have hfrow : ∀ {c : Nat × ABlk}, FRow (c :: (Fw ++ ((bk, ABlk.cells (bookC T v (AV.slc (some (bx, 0)) x.length x.length false 1) S) true) :: (bx, ABlk.cells (ints X) true) :: F))) v fs := fun {c} => hr.cons.cons.app.cons
    have mbk : ∀ {c : Nat × ABlk}, (bk, ABlk.cells (bookC T v (AV.slc (some (bx, 0)) x.length x.length false 1) S) true) ∈ c :: (Fw ++ ((bk, ABlk.cells (bookC T v (AV.slc (some (bx, 0)) x.length x.length false 1) S) true) :: (bx, ABlk.cells (ints X) true) :: F)) := fun {c} => List.mem_cons_of_mem _ (List.mem_append_right _ (List.mem_cons_self ..))
    have mbx : ∀ {c : Nat × ABlk}, (bx, ABlk.cells (ints X) true) ∈ c :: (Fw ++ ((bk, ABlk.cells (bookC T v (AV.slc (some (bx, 0)) x.length x.length false 1) S) true) :: (bx, ABlk.cells (ints X) true) :: F)) := fun {c} => List.mem_cons_of_mem _ (List.mem_append_right _ (List.mem_cons_of_mem _ (List.mem_cons_self ..)))
    by_cases hfa : (gF fs h.1).f = h.2
    · have hp1 : push1 fs m X h = X.set h.1 (X.getD h.1 0 + m) := by unfold push1; rw [if_pos hfa]
      (repeat' (first | (first | refine Wo.nil ?_ | refine Wd.nil ?_ | ((first | refine Wo.cons ?_ | refine Wd.cons ?_); (try refine W1.go rfl rfl ?_); ((first | refine k1 ?_ | refine k2 ?_ | (refine isDst 134 ?_; refine W1.cO ?_) | (refine isDst 135 ?_; refine W1.iaddrZ i hrow rfl rfl rfl hic (fun b o la own hmm hll hs => ?_); rw [hh] at hs) | (refine isDst 136 ?_; refine W1.load rfl hmm (seg_part (i := 0) (m := 2) hs hll (by omega)) ?_) | (refine isDst 25 ?_; refine W1.alloc (fun b25 hb25 => ?_)) | (refine isDst 141 ?_; refine W1.load1 rfl mbk rfl ?_) | (refine isDst 144 ?_; refine W1.iaddrF h.1 hfrow rfl rfl rfl hf (fun b o la own hm h0 h1 h2 h3 h4 h5 => ?_)) | (refine isDst 146 ?_; refine W1.load1 rfl hm h0 ?_) | (refine isDst 143 ?_; refine W1.load1 rfl (List.mem_cons_self ..) rfl ?_) | (refine isDst 148 ?_; refine W1.load1 rfl (List.mem_cons_self ..) rfl ?_) | (refine isDst 149 ?_; refine W1.cO ?_) | (refine isDst 153 ?_; refine W1.load1 rfl mbk rfl ?_) | (refine isDst 164 ?_; refine W1.load1 rfl mbk rfl ?_) | (refine isDst 155 ?_; refine W1.load1 rfl (List.mem_cons_self ..) rfl ?_) | (refine isDst 166 ?_; refine W1.load1 rfl (List.mem_cons_self ..) rfl ?_) | (refine isDst 156 ?_; refine W1.iaddrz h.1 rfl rfl rfl hxl2 ?_) | (refine isDst 160 ?_; refine W1.iaddrz h.1 rfl rfl rfl hxl2 ?_) | (refine isDst 167 ?_; refine W1.iaddrz h.1 rfl rfl rfl hxl2 ?_) | (refine isDst 171 ?_; refine W1.iaddrz h.1 rfl rfl rfl hxl2 ?_) | (refine isDst 157 ?_; refine W1.loadI (j := h.1) (xs := X) rfl (by omega) mbx hXl ?_) | (refine isDst 168 ?_; refine W1.loadI (j := h.1) (xs := X) rfl (by omega) mbx hXl ?_) | (refine isTo 160 ?_; refine W1.storeI (xs := X) (j := h.1) rfl (by omega) rfl inU hXl hbx ?_) | (refine isTo 171 ?_; refine W1.storeI (xs := X) (j := h.1) rfl (by omega) rfl inU hXl hbx ?_) | refine W1.auto ?_) <;> (try refine ⟨fun _ => rfl, ?_⟩)))) | (first | refine Ws.seq ?_ | refine Ws.region ?_ | refine Ws.draw (fun bd hbd => ?_) | refine Ws.cond rfl ?_ | refine Ws.skip ?_ | refine Ws.scope ?_ | refine Ws.block ?_ | refine Ws.exit ?_ | refine Ws.ret ?_)))
      refine ⟨i + 1, ⟨rfl, rfl, rfl, rfl, rfl, rfl, trivial⟩, ?_, hic, by show _ - (i + 1) < _ - i; omega⟩
      rw [htk, hp1]
      exact .cons _ (List.Sublist.refl _)
    · have hp1 : push1 fs m X h = X.set h.1 (X.getD h.1 0 - m) := by unfold push1; rw [if_neg hfa]
      (repeat' (first | (first | refine Wo.nil ?_ | refine Wd.nil ?_ | ((first | refine Wo.cons ?_ | refine Wd.cons ?_); (try refine W1.go rfl rfl ?_); ((first | refine k1 ?_ | refine k2 ?_ | (refine isDst 134 ?_; refine W1.cO ?_) | (refine isDst 135 ?_; refine W1.iaddrZ i hrow rfl rfl rfl hic (fun b o la own hmm hll hs => ?_); rw [hh] at hs) | (refine isDst 136 ?_; refine W1.load rfl hmm (seg_part (i := 0) (m := 2) hs hll (by omega)) ?_) | (refine isDst 25 ?_; refine W1.alloc (fun b25 hb25 => ?_)) | (refine isDst 141 ?_; refine W1.load1 rfl mbk rfl ?_) | (refine isDst 144 ?_; refine W1.iaddrF h.1 hfrow rfl rfl rfl hf (fun b o la own hm h0 h1 h2 h3 h4 h5 => ?_)) | (refine isDst 146 ?_; refine W1.load1 rfl hm h0 ?_) | (refine isDst 143 ?_; refine W1.load1 rfl (List.mem_cons_self ..) rfl ?_) | (refine isDst 148 ?_; refine W1.load1 rfl (List.mem_cons_self ..) rfl ?_) | (refine isDst 149 ?_; refine W1.cO ?_) | (refine isDst 153 ?_; refine W1.load1 rfl mbk rfl ?_) | (refine isDst 164 ?_; refine W1.load1 rfl mbk rfl ?_) | (refine isDst 155 ?_; refine W1.load1 rfl (List.mem_cons_self ..) rfl ?_) | (refine isDst 166 ?_; refine W1.load1 rfl (List.mem_cons_self ..) rfl ?_) | (refine isDst 156 ?_; refine W1.iaddrz h.1 rfl rfl rfl hxl2 ?_) | (refine isDst 160 ?_; refine W1.iaddrz h.1 rfl rfl rfl hxl2 ?_) | (refine isDst 167 ?_; refine W1.iaddrz h.1 rfl rfl rfl hxl2 ?_) | (refine isDst 171 ?_; refine W1.iaddrz h.1 rfl rfl rfl hxl2 ?_) | (refine isDst 157 ?_; refine W1.loadI (j := h.1) (xs := X) rfl (by omega) mbx hXl ?_) | (refine isDst 168 ?_; refine W1.loadI (j := h.1) (xs := X) rfl (by omega) mbx hXl ?_) | (refine isTo 160 ?_; refine W1.storeI (xs := X) (j := h.1) rfl (by omega) rfl inU hXl hbx ?_) | (refine isTo 171 ?_; refine W1.storeI (xs := X) (j := h.1) rfl (by omega) rfl inU hXl hbx ?_) | refine W1.auto ?_) <;> (try refine ⟨fun _ => rfl, ?_⟩)))) | (first | refine Ws.seq ?_ | refine Ws.region ?_ | refine Ws.draw (fun bd hbd => ?_) | refine Ws.cond rfl ?_ | refine Ws.skip ?_ | refine Ws.scope ?_ | refine Ws.block ?_ | refine Ws.exit ?_ | refine Ws.ret ?_)))
      refine ⟨i + 1, ⟨rfl, rfl, rfl, rfl, rfl, rfl, trivial⟩, ?_, hic, by show _ - (i + 1) < _ - i; omega⟩
      rw [htk, hp1]
      exact .cons _ (List.Sublist.refl _)
  · obtain rfl : i = W.length := by omega
    rw [List.take_length]
    (repeat' (first | (first | refine Wo.nil ?_ | refine Wd.nil ?_ | ((first | refine Wo.cons ?_ | refine Wd.cons ?_); (try refine W1.go rfl rfl ?_); ((first | refine k1 ?_ | refine k2 ?_ | (refine isDst 134 ?_; refine W1.cO ?_) | refine W1.auto ?_) <;> (try refine ⟨fun _ => rfl, ?_⟩)))) | (first | refine Ws.seq ?_ | refine Ws.region ?_ | refine Ws.draw (fun bd hbd => ?_) | refine Ws.cond rfl ?_ | refine Ws.skip ?_ | refine Ws.scope ?_ | refine Ws.block ?_ | refine Ws.exit ?_ | refine Ws.ret ?_)))
    exact ⟨_, List.sublist_append_right _ _, rfl, ⟨rfl, rfl, trivial⟩, rfl⟩
end Go.Ax
