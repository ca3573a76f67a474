/-
  Contracts: looking for a way: the search.
-/
import Derived.Test.YtjcehnfhkgbpiaaXNR
namespace Go.Ax
set_option maxHeartbeats 1000000
set_option maxRecDepth 6000
set_option linter.unusedSimpArgs false
set_option linter.unusedVariables false
attribute [-simp] List.getD_eq_getElem?_getD
variable {lo : Nat} {F : Hp}
structure FS where
  D : List Cm
  L : List (Int × Hop × Nat)
  c : Nat
  qv : AV
  qb : Nat
  qo : Nat
  ql : List AV
  Q : List Int
  S : List Int
structure FInv (lo : Nat) (T : Int) (fs : List Fl) (x : List Int) (but a : Int) (s : FS) : Prop where
  tr : Tr T fs x but a s.D
  sl : s.S.length = 13
  sv : ∀ t : Nat, t < 13 → s.S.getD t 0 = if ((t : Nat) : Int) ∈ nodes a s.D then 1 else 0
  ml : ∀ t, mv s.L t = dv s.D t
  q : QS s.qv s.qb s.qo s.ql s.Q
  qb : lo ≤ s.qb
  qs : ∀ t ∈ s.Q, t ∈ nodes a s.D
structure FRel (a : Int) (s s' : FS) : Prop where
  d : ∀ t, t ∈ nodes a s.D → t ∈ nodes a s'.D
  q : ∀ t, t ∈ s.Q → t ∈ s'.Q
  n : ∀ t, t ∈ nodes a s'.D → t ∈ nodes a s.D ∨ t ∈ s'.Q
  l : s'.D.length + s.Q.length = s.D.length + s'.Q.length
theorem FRel.refl (a : Int) (s : FS) : FRel a s s := ⟨fun _ h => h, fun _ h => h, fun _ h => .inl h, rfl⟩
theorem toR_in {T : Int} {fs : List Fl} (hN : Net T fs) {i : Nat} (hi : i < fs.length) {a : Int} (ha : 0 ≤ a ∧ a ≤ T) : 0 ≤ toR fs i a ∧ toR fs i a ≤ T := by
  have := hN.u i hi
  unfold toR; split
  · omega
  · split <;> omega
theorem room_end {fs : List Fl} {x : List Int} {i : Nat} {a : Int} (h : 0 < roomR fs x i a) : isEnd fs i a ∧ oth fs i a = toR fs i a := by
  unfold roomR at h
  unfold isEnd oth toR
  by_cases h1 : (gF fs i).f = a
  · exact ⟨.inl h1, by rw [if_pos h1, if_pos h1]⟩
  · rw [if_neg h1] at h
    by_cases h2 : (gF fs i).t = a
    · exact ⟨.inr h2, by rw [if_neg h1, if_neg h1, if_pos h2]⟩
    · rw [if_neg h2] at h; omega
theorem FInv.more {T : Int} {fs : List Fl} {x : List Int} {but a at' : Int} {s : FS} {i ta : Nat} {v' : AV} {b' : Nat} (hN : Net T fs) (h : FInv lo T fs x but a s) (hi : i < fs.length) (hbut : (i : Int) ≠ but) (hat : at' ∈ nodes a s.D) (haT : 0 ≤ at' ∧ at' ≤ T) (hr : 0 < roomR fs x i at') (hta : toR fs i at' = (ta : Nat)) (ht : ta < 13) (hs : s.S.getD ta 0 = 0) (hq : QS v' b' 0 (ints (s.Q ++ [((ta : Nat) : Int)])) (s.Q ++ [((ta : Nat) : Int)])) (hb : lo ≤ b') :
    FInv lo T fs x but a ⟨((ta : Nat), i, at') :: s.D, s.L ++ [(((ta : Nat) : Int), (i, at'), s.c)], s.c + 1, v', b', 0, ints (s.Q ++ [((ta : Nat) : Int)]), s.Q ++ [((ta : Nat) : Int)], s.S.set ta 1⟩ ∧ FRel a s ⟨((ta : Nat), i, at') :: s.D, s.L ++ [(((ta : Nat) : Int), (i, at'), s.c)], s.c + 1, v', b', 0, ints (s.Q ++ [((ta : Nat) : Int)]), s.Q ++ [((ta : Nat) : Int)], s.S.set ta 1⟩ := by
  have hnew : ((ta : Nat) : Int) ∉ nodes a s.D := fun hm => by
    rw [h.sv ta ht, if_pos hm] at hs; cases hs
  have ⟨he, ho⟩ := room_end hr
  have htT := toR_in hN hi haT
  rw [hta] at ho htT
  refine ⟨⟨.cons h.tr hnew hat htT hi hbut he ho hr, by simp [h.sl], fun t ht' => ?_, fun t => ?_, hq, hb, fun t hm => ?_⟩, ⟨fun t hm => nodes_cons.2 (.inr hm), fun t hm => List.mem_append_left _ hm, fun t hm => ?_, by simp; omega⟩⟩
  · dsimp only
    rw [getD_setI (by rw [h.sl]; exact ht)]
    by_cases e : t = ta
    · subst e; rw [if_pos rfl, if_pos (nodes_cons.2 (.inl rfl))]
    · rw [if_neg e, h.sv t ht']
      by_cases hm : ((t : Nat) : Int) ∈ nodes a s.D
      · rw [if_pos hm, if_pos (nodes_cons.2 (.inr hm))]
      · rw [if_neg hm, if_neg fun k => by
          rcases nodes_cons.1 k with k | k
          · exact e (by have k : ((t : Nat) : Int) = ((ta : Nat) : Int) := k; omega)
          · exact hm k]
  · dsimp only
    rw [mv_app, h.ml t]
    by_cases e : t = ((ta : Nat) : Int)
    · subst e; rw [dv_none hnew, dv_head]; simp
    · rw [dv_tail e]
      cases dv s.D t <;> simp [e]
  · rcases List.mem_append.1 hm with hm | hm
    · exact nodes_cons.2 (.inr (h.qs t hm))
    · rw [List.mem_singleton] at hm; exact nodes_cons.2 (.inl hm)
  · rcases nodes_cons.1 hm with hm | hm
    · exact .inr (List.mem_append_right _ (by rw [hm]; exact List.mem_singleton.2 rfl))
    · exact .inl hm
theorem FRel.trans {a : Int} {s s' s'' : FS} (h : FRel a s s') (k : FRel a s' s'') : FRel a s s'' := ⟨fun t ht => k.d t (h.d t ht), fun t ht => k.q t (h.q t ht), fun t ht => by
  rcases k.n t ht with h1 | h1
  · rcases h.n t h1 with h2 | h2
    · exact .inl h2
    · exact .inr (k.q t h2)
  · exact .inr h1, by have := h.l; have := k.l; omega⟩
def DoneR (fs : List Fl) (x : List Int) (but a : Int) (D : List Cm) (t : Int) (n : Nat) : Prop := ∀ i, i < n → (i : Int) ≠ but → 0 < roomR fs x i t → toR fs i t ∈ nodes a D
theorem DoneR.mono {fs : List Fl} {x : List Int} {but a t : Int} {D D' : List Cm} {n : Nat} (h : DoneR fs x but a D t n) (hd : ∀ t, t ∈ nodes a D → t ∈ nodes a D') : DoneR fs x but a D' t n := fun i hi h1 h2 => hd _ (h i hi h1 h2)
def gS (T : Int) (v xv : AV) (bm bk : Nat) (R : Hp) (s : FS) : Hp := (s.qb, .cells s.ql true) :: (bm, .map (ents key1 hopv s.L) s.c) :: (bk, .cells (bookC T v xv s.S) true) :: R
theorem f78_in {T : Int} {fs : List Fl} {x : List Int} {but a most at' : Int} {v gv : AV} {bk bx bm : Nat} {s0 : FS} {B : FE} (hN : Net T fs) (hr : FRow F v fs) (hxr : inRg fs x) (hbk : lo ≤ bk) (hbm : lo ≤ bm) (h0 : FInv lo T fs x but a s0) (haT : 0 ≤ a ∧ a ≤ T) (hat : at' ∈ nodes a s0.D) (hQ0 : s0.Q.length ≤ 20) :
    Ws tblW lo none (af78.body.loopAt 1) (upds B ((13, s0.qv) :: (56, .int .i64 0) :: (14, .int .i64 (-1)) :: (15, .int .i64 at') :: (55, .int .i64 fs.length) :: [(0, .ptr (some (bk, 0))), (1, .int .i64 a), (2, .int .i64 but), (3, .int .i64 most), (4, gv), (12, .map (some bm))])) (gS T v (AV.slc (some (bx, 0)) x.length x.length false 1) bm bk (((bx, ABlk.cells (ints x) true) :: F)) s0)
      fun r E' H => r = .exit 2 ∧ ∃ s, FInv lo T fs x but a s ∧ FRel a s0 s ∧ DoneR fs x but a s.D at' fs.length ∧ Holds E' ((13, s.qv) :: (14, .int .i64 (-1)) :: [(0, .ptr (some (bk, 0))), (1, .int .i64 a), (2, .int .i64 but), (3, .int .i64 most), (4, gv), (12, .map (some bm))]) ∧ H = gS T v (AV.slc (some (bx, 0)) x.length x.length false 1) bm bk (((bx, ABlk.cells (ints x) true) :: F)) s := by
  show Ws tblW lo none (.loop _) _ _ _
  refine Ws.shrink ?_
  have hn := hN.n
  have hT := hN.t
  have hatT := h0.tr.node_range haT at' hat
  refine Ws.loopG (X := Nat × FS) (fun X => (13, X.2.qv) :: (56, .int .i64 (X.1 : Nat)) :: (14, .int .i64 (-1)) :: (15, .int .i64 at') :: (55, .int .i64 fs.length) :: [(0, .ptr (some (bk, 0))), (1, .int .i64 a), (2, .int .i64 but), (3, .int .i64 most), (4, gv), (12, .map (some bm))]) (fun X => gS T v (AV.slc (some (bx, 0)) x.length x.length false 1) bm bk (((bx, ABlk.cells (ints x) true) :: F)) X.2) (fun X => X.1 ≤ fs.length ∧ FInv lo T fs x but a X.2 ∧ FRel a s0 X.2 ∧ DoneR fs x but a X.2.D at' X.1) (fun X => fs.length - X.1) (0, s0) ⟨rfl, rfl, rfl, rfl, rfl, rfl, rfl, rfl, rfl, rfl, rfl, trivial⟩ (List.Sublist.refl _) ⟨Nat.zero_le _, h0, FRel.refl a s0, fun i hi => absurd hi (Nat.not_lt_zero i)⟩ ?_
  rintro ⟨i, s⟩ B2 ⟨hi, hI, hR, hD⟩
  have hi : i ≤ fs.length := hi
  have hI : FInv lo T fs x but a s := hI
  have hR : FRel a s0 s := hR
  have hD : DoneR fs x but a s.D at' i := hD
  dsimp only
  by_cases hic : i < fs.length
  · have hsl := hI.sl
    have hq := hI.q
    have hqb := hI.qb
    have hQl : s.Q.length ≤ 40 := by
      have := hR.l
      have hd := hI.tr.len haT
      omega
    have htoT := toR_in hN hic hatT
    obtain ⟨ta, hta⟩ : ∃ ta : Nat, toR fs i at' = (ta : Nat) := ⟨(toR fs i at').toNat, by omega⟩
    have ht13 : ta < 13 := by omega
    have mbk : (bk, ABlk.cells (bookC T v (AV.slc (some (bx, 0)) x.length x.length false 1) s.S) true) ∈ gS T v (AV.slc (some (bx, 0)) x.length x.length false 1) bm bk (((bx, ABlk.cells (ints x) true) :: F)) s := List.mem_cons_of_mem _ (List.mem_cons_of_mem _ (List.mem_cons_self ..))
    have mbx : (bx, ABlk.cells (ints x) true) ∈ gS T v (AV.slc (some (bx, 0)) x.length x.length false 1) bm bk (((bx, ABlk.cells (ints x) true) :: F)) s := List.mem_cons_of_mem _ (List.mem_cons_of_mem _ (List.mem_cons_of_mem _ (List.mem_cons_self ..)))
    have hxrow : RowI (gS T v (AV.slc (some (bx, 0)) x.length x.length false 1) bm bk (((bx, ABlk.cells (ints x) true) :: F)) s) (AV.slc (some (bx, 0)) x.length x.length false 1) x := RowI.lit mbx rfl
    have hfrow : FRow (gS T v (AV.slc (some (bx, 0)) x.length x.length false 1) bm bk (((bx, ABlk.cells (ints x) true) :: F)) s) v fs := hr.cons.cons.cons.cons
    have c82 : Pure tblW (fnv 82) [.ptr (some (bk, 0)), .int .i64 (i : Nat), .int .i64 at'] (gS T v (AV.slc (some (bx, 0)) x.length x.length false 1) bm bk (((bx, ABlk.cells (ints x) true) :: F)) s) (rv1 (roomR fs x i at', ((ta : Nat) : Int))) := by rw [← hta]; exact f82_ok hN mbk hfrow hxrow hxr hic
    have hgo : ∀ (hD' : (i : Int) ≠ but → 0 < roomR fs x i at' → ((ta : Nat) : Int) ∈ nodes a s.D), DoneR fs x but a s.D at' (i + 1) := fun hD' j hj h1 h2 => by
      rcases Nat.lt_succ_iff_lt_or_eq.1 hj with hj | rfl
      · exact hD j hj h1 h2
      · rw [hta]; exact hD' h1 h2
    generalize hrm : roomR fs x i at' = rm at *
    by_cases hbt : (i : Int) = but
    · (repeat' (first | (first | refine Wo.nil ?_ | refine Wd.nil ?_ | ((first | refine Wo.cons ?_ | refine Wd.cons ?_); (try refine W1.go rfl rfl ?_); ((first | refine k1 ?_ | refine k2 ?_ | (refine isDst 57 ?_; refine W1.cO ?_) | (refine isDst 63 ?_; refine W1.pure rfl rfl c82 ?_) | (refine isDst 68 ?_; refine W1.cO ?_) | (refine isDst 71 ?_; refine W1.cO ?_) | (refine isDst 80 ?_; refine W1.cO ?_) | (refine isDst 78 ?_; refine W1.iaddrA ta rfl rfl rfl ht13 ?_) | (refine isDst 79 ?_; refine W1.load1 rfl mbk (book_get (t := ta) (by omega) (by omega)) ?_) | refine W1.auto ?_) <;> (try refine ⟨fun _ => rfl, ?_⟩)))) | (first | refine Ws.seq ?_ | refine Ws.region ?_ | refine Ws.draw (fun bd hbd => ?_) | refine Ws.cond rfl ?_ | refine Ws.skip ?_ | refine Ws.scope ?_ | refine Ws.block ?_ | refine Ws.exit ?_ | refine Ws.ret ?_)))
      exact ⟨(i + 1, s), ⟨rfl, rfl, rfl, rfl, rfl, rfl, rfl, rfl, rfl, rfl, rfl, trivial⟩, List.Sublist.refl _, ⟨hic, hI, hR, hgo fun h => absurd hbt h⟩, by show _ - (i + 1) < _ - i; omega⟩
    · by_cases hrp : 0 < rm
      · by_cases hsn : s.S.getD ta 0 = 0
        · have hnn : mfind s.L ((ta : Nat) : Int) = none := by
            refine mv_none ?_
            rw [hI.ml]
            exact dv_none fun hm => by rw [hI.sv ta ht13, if_pos hm] at hsn; cases hsn
          (repeat' (first | (first | refine Wo.nil ?_ | refine Wd.nil ?_ | ((first | refine Wo.cons ?_ | refine Wd.cons ?_); (try refine W1.go rfl rfl ?_); ((first | refine k1 ?_ | refine k2 ?_ | (refine isDst 57 ?_; refine W1.cO ?_) | (refine isDst 63 ?_; refine W1.pure rfl rfl c82 ?_) | (refine isDst 68 ?_; refine W1.cO ?_) | (refine isDst 71 ?_; refine W1.cO ?_) | (refine isDst 80 ?_; refine W1.cO ?_) | (refine isDst 78 ?_; refine W1.iaddrA ta rfl rfl rfl ht13 ?_) | (refine isDst 79 ?_; refine W1.load1 rfl mbk (book_get (t := ta) (by omega) (by omega)) ?_) | (refine isDst 85 ?_; refine W1.iaddrA ta rfl rfl rfl ht13 ?_) | (refine isDst 86 ?_; refine W1.iaddrA ta rfl rfl rfl ht13 ?_) | (refine isTo 86 ?_; refine W1.storeN (cs := [.int .i64 1]) (l := bookC T v (AV.slc (some (bx, 0)) x.length x.length false 1) s.S) (l' := bookC T v (AV.slc (some (bx, 0)) x.length x.length false 1) (s.S.set ta 1)) rfl rfl rfl mbk (book_set (by omega) (by omega)) (.tail (.tail .head)) (by rw [book_len]; omega) hbk ?_) | refine W1.mapupM (kf := key1) (vf := hopv) ((ta : Nat) : Int) (i, at') key1_ok rfl rfl rfl hnn (.tail .head) hbm ?_ | (refine isDst 94 ?_; refine W1.bslice (l := [.int .i64 ((ta : Nat) : Int)]) (fill_all (catF1 rfl rfl catF0) rfl) (fun b94 hb94 => ?_)) | (refine isDst 95 ?_; refine hq.app (F1 := [_]) hqb rfl rfl rfl (List.mem_cons_self ..) (by omega) (fun v' b' hb' hq' => ?_); simp only [List.cons_append, List.nil_append]) | refine W1.auto ?_) <;> (try refine ⟨fun _ => rfl, ?_⟩)))) | (first | refine Ws.seq ?_ | refine Ws.region ?_ | refine Ws.draw (fun bd hbd => ?_) | refine Ws.cond rfl ?_ | refine Ws.skip ?_ | refine Ws.scope ?_ | refine Ws.block ?_ | refine Ws.exit ?_ | refine Ws.ret ?_)))
          obtain ⟨m1, m2⟩ := hI.more hN hic hbt (hR.d _ hat) hatT (by rw [hrm]; exact hrp) hta ht13 hsn hq' hb'
          refine ⟨(i + 1, ⟨((ta : Nat), i, at') :: s.D, s.L ++ [(((ta : Nat) : Int), (i, at'), s.c)], s.c + 1, v', b', 0, ints (s.Q ++ [((ta : Nat) : Int)]), s.Q ++ [((ta : Nat) : Int)], s.S.set ta 1⟩), ⟨rfl, rfl, rfl, rfl, rfl, rfl, rfl, rfl, rfl, rfl, rfl, trivial⟩, ?_, ⟨hic, m1, hR.trans m2, fun j hj h1 h2 => ?_⟩, by show _ - (i + 1) < _ - i; omega⟩
          · exact .cons_cons _ (.cons _ (List.Sublist.refl _))
          · rcases Nat.lt_succ_iff_lt_or_eq.1 hj with hj | rfl
            · exact m2.d _ (hD j hj h1 h2)
            · rw [hta]; exact nodes_cons.2 (.inl rfl)
        · have hm : ((ta : Nat) : Int) ∈ nodes a s.D := Decidable.byContradiction fun hm => hsn (by rw [hI.sv ta ht13, if_neg hm])
          (repeat' (first | (first | refine Wo.nil ?_ | refine Wd.nil ?_ | ((first | refine Wo.cons ?_ | refine Wd.cons ?_); (try refine W1.go rfl rfl ?_); ((first | refine k1 ?_ | refine k2 ?_ | (refine isDst 57 ?_; refine W1.cO ?_) | (refine isDst 63 ?_; refine W1.pure rfl rfl c82 ?_) | (refine isDst 68 ?_; refine W1.cO ?_) | (refine isDst 71 ?_; refine W1.cO ?_) | (refine isDst 80 ?_; refine W1.cO ?_) | (refine isDst 78 ?_; refine W1.iaddrA ta rfl rfl rfl ht13 ?_) | (refine isDst 79 ?_; refine W1.load1 rfl mbk (book_get (t := ta) (by omega) (by omega)) ?_) | (refine isDst 85 ?_; refine W1.iaddrA ta rfl rfl rfl ht13 ?_) | (refine isDst 86 ?_; refine W1.iaddrA ta rfl rfl rfl ht13 ?_) | (refine isTo 86 ?_; refine W1.storeN (cs := [.int .i64 1]) (l := bookC T v (AV.slc (some (bx, 0)) x.length x.length false 1) s.S) (l' := bookC T v (AV.slc (some (bx, 0)) x.length x.length false 1) (s.S.set ta 1)) rfl rfl rfl mbk (book_set (by omega) (by omega)) (.tail (.tail .head)) (by rw [book_len]; omega) hbk ?_) | refine W1.mapupM (kf := key1) (vf := hopv) ((ta : Nat) : Int) (i, at') key1_ok rfl rfl rfl hnn (.tail .head) hbm ?_ | (refine isDst 94 ?_; refine W1.bslice (l := [.int .i64 ((ta : Nat) : Int)]) (fill_all (catF1 rfl rfl catF0) rfl) (fun b94 hb94 => ?_)) | (refine isDst 95 ?_; refine hq.app (F1 := [_]) hqb rfl rfl rfl (List.mem_cons_self ..) (by omega) (fun v' b' hb' hq' => ?_); simp only [List.cons_append, List.nil_append]) | refine W1.auto ?_) <;> (try refine ⟨fun _ => rfl, ?_⟩)))) | (first | refine Ws.seq ?_ | refine Ws.region ?_ | refine Ws.draw (fun bd hbd => ?_) | refine Ws.cond rfl ?_ | refine Ws.skip ?_ | refine Ws.scope ?_ | refine Ws.block ?_ | refine Ws.exit ?_ | refine Ws.ret ?_)))
          exact ⟨(i + 1, s), ⟨rfl, rfl, rfl, rfl, rfl, rfl, rfl, rfl, rfl, rfl, rfl, trivial⟩, List.Sublist.refl _, ⟨hic, hI, hR, hgo fun _ _ => hm⟩, by show _ - (i + 1) < _ - i; omega⟩
      · (repeat' (first | (first | refine Wo.nil ?_ | refine Wd.nil ?_ | ((first | refine Wo.cons ?_ | refine Wd.cons ?_); (try refine W1.go rfl rfl ?_); ((first | refine k1 ?_ | refine k2 ?_ | (refine isDst 57 ?_; refine W1.cO ?_) | (refine isDst 63 ?_; refine W1.pure rfl rfl c82 ?_) | (refine isDst 68 ?_; refine W1.cO ?_) | (refine isDst 71 ?_; refine W1.cO ?_) | (refine isDst 80 ?_; refine W1.cO ?_) | (refine isDst 78 ?_; refine W1.iaddrA ta rfl rfl rfl ht13 ?_) | (refine isDst 79 ?_; refine W1.load1 rfl mbk (book_get (t := ta) (by omega) (by omega)) ?_) | (refine isDst 85 ?_; refine W1.iaddrA ta rfl rfl rfl ht13 ?_) | (refine isDst 86 ?_; refine W1.iaddrA ta rfl rfl rfl ht13 ?_) | (refine isTo 86 ?_; refine W1.storeN (cs := [.int .i64 1]) (l := bookC T v (AV.slc (some (bx, 0)) x.length x.length false 1) s.S) (l' := bookC T v (AV.slc (some (bx, 0)) x.length x.length false 1) (s.S.set ta 1)) rfl rfl rfl mbk (book_set (by omega) (by omega)) (.tail (.tail .head)) (by rw [book_len]; omega) hbk ?_) | refine W1.mapupM (kf := key1) (vf := hopv) ((ta : Nat) : Int) (i, at') key1_ok rfl rfl rfl hnn (.tail .head) hbm ?_ | (refine isDst 94 ?_; refine W1.bslice (l := [.int .i64 ((ta : Nat) : Int)]) (fill_all (catF1 rfl rfl catF0) rfl) (fun b94 hb94 => ?_)) | (refine isDst 95 ?_; refine hq.app (F1 := [_]) hqb rfl rfl rfl (List.mem_cons_self ..) (by omega) (fun v' b' hb' hq' => ?_); simp only [List.cons_append, List.nil_append]) | refine W1.auto ?_) <;> (try refine ⟨fun _ => rfl, ?_⟩)))) | (first | refine Ws.seq ?_ | refine Ws.region ?_ | refine Ws.draw (fun bd hbd => ?_) | refine Ws.cond rfl ?_ | refine Ws.skip ?_ | refine Ws.scope ?_ | refine Ws.block ?_ | refine Ws.exit ?_ | refine Ws.ret ?_)))
        exact ⟨(i + 1, s), ⟨rfl, rfl, rfl, rfl, rfl, rfl, rfl, rfl, rfl, rfl, rfl, trivial⟩, List.Sublist.refl _, ⟨hic, hI, hR, hgo fun _ h => absurd h hrp⟩, by show _ - (i + 1) < _ - i; omega⟩
  · obtain rfl : i = fs.length := by omega
    (repeat' (first | (first | refine Wo.nil ?_ | refine Wd.nil ?_ | ((first | refine Wo.cons ?_ | refine Wd.cons ?_); (try refine W1.go rfl rfl ?_); ((first | refine k1 ?_ | refine k2 ?_ | (refine isDst 57 ?_; refine W1.cO ?_) | refine W1.auto ?_) <;> (try refine ⟨fun _ => rfl, ?_⟩)))) | (first | refine Ws.seq ?_ | refine Ws.region ?_ | refine Ws.draw (fun bd hbd => ?_) | refine Ws.cond rfl ?_ | refine Ws.skip ?_ | refine Ws.scope ?_ | refine Ws.block ?_ | refine Ws.exit ?_ | refine Ws.ret ?_)))
    exact ⟨_, List.Sublist.refl _, rfl, s, hI, hR, hD, ⟨rfl, rfl, rfl, rfl, rfl, rfl, rfl, rfl, trivial⟩, rfl⟩
end Go.Ax
