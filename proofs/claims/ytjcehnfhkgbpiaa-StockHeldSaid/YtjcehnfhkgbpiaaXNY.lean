/-
  Contracts: a book is settled: the whole.
-/
import Derived.Test.YtjcehnfhkgbpiaaXNW
namespace Go.Ax
set_option maxHeartbeats 1000000
set_option maxRecDepth 6000
set_option linter.unusedSimpArgs false
set_option linter.unusedVariables false
attribute [-simp] List.getD_eq_getElem?_getD
variable {lo : Nat} {F : Hp}
theorem idxOf_spec {p : Int → Bool} {xs : List Int} (h : 0 ≤ idxOf p xs) : ∃ i : Nat, i < xs.length ∧ idxOf p xs = (i : Nat) ∧ p (xs.getD i 0) = true := by
  unfold idxOf at h ⊢
  cases e : xs.findIdx? p with
  | none => rw [e] at h; have h : (0 : Int) ≤ -1 := h; omega
  | some i =>
    obtain ⟨hi, hp, _⟩ := List.findIdx?_eq_some_iff_getElem.1 e
    exact ⟨i, hi, rfl, by simp only [List.getD, List.getElem?_eq_getElem hi, Option.getD_some]; exact hp⟩
inductive SetR (lo : Nat) (T : Int) (fs : List Fl) (x : List Int) : AV → Hp → Prop
  | yes (h : IsT T fs x) : SetR lo T fs x (.slc none 0 0 true 0) []
  | no {r : AV} {Fo : Hp} {p : Int → Bool} (ho : OwnI lo false r Fo (pickL T p)) (h : 0 < shB fs p) : SetR lo T fs x r Fo
theorem f56_ok {T : Int} {fs : List Fl} {x S : List Int} {v : AV} {bk bx : Nat} (hN : Net T fs) (hr : FRow F v fs) (hxr : inRg fs x) (hbk : lo ≤ bk) (hbx : lo ≤ bx) (hS : S.length = 13) :
    Fn tblW lo (fnv 56) [.ptr (some (bk, 0))] ((bk, .cells (bookC T v (AV.slc (some (bx, 0)) fs.length fs.length false 1) S) true) :: (bx, .cells (ints x) true) :: F)
      (fun r F' => ∃ x' S' Fo, inRg fs x' ∧ S'.length = 13 ∧ SetR lo T fs x' r Fo ∧ F' = Fo ++ ((bk, .cells (bookC T v (AV.slc (some (bx, 0)) fs.length fs.length false 1) S') true) :: (bx, .cells (ints x') true) :: F)) := by
  refine Fn.func (fn := af56) rfl rfl ?_
  have hn := hN.n
  have hT := hN.t
  (repeat' (first | (first | refine Wo.nil ?_ | refine Wd.nil ?_ | ((first | refine Wo.cons ?_ | refine Wd.cons ?_); (try refine W1.go rfl rfl ?_); ((first | refine k1 ?_ | refine k2 ?_ | refine W1.auto ?_) <;> (try refine ⟨fun _ => rfl, ?_⟩)))) | (first | refine Ws.seq ?_ | refine Ws.region ?_ | refine Ws.draw (fun bd hbd => ?_) | refine Ws.cond rfl ?_ | refine Ws.skip ?_ | refine Ws.scope ?_ | refine Ws.block ?_ | refine Ws.exit ?_ | refine Ws.ret ?_)))
  refine Ws.fresh (l := [(0, .ptr (some (bk, 0)))]) ⟨rfl, trivial⟩ (fun B => ?_)
  refine Ws.loopG (X := List Int × List Int) (fun _ => [(0, .ptr (some (bk, 0)))]) (fun X => (bk, .cells (bookC T v (AV.slc (some (bx, 0)) fs.length fs.length false 1) X.2) true) :: (bx, .cells (ints X.1) true) :: F) (fun X => inRg fs X.1 ∧ X.2.length = 13) (fun X => (posS T fs X.1).toNat) (x, S) ⟨rfl, trivial⟩ (List.Sublist.refl _) ⟨hxr, hS⟩ ?_
  clear hxr hS
  rintro ⟨x, S⟩ B2 ⟨hxr, hS⟩
  dsimp only at hxr hS ⊢
  have hxl := hxr.1
  have hOl : (ovK 13 fs x fs.length).length = 13 := ovK_len
  have hOg : ∀ t : Nat, t < 13 → (ovK 13 fs x fs.length).getD t 0 = ov fs x fs.length (t : Nat) := fun t ht => ovK_get ht
  have hxb := hxr.nn hN
  have hOb : ∀ t, -100000000 ≤ (ovK 13 fs x fs.length).getD t 0 ∧ (ovK 13 fs x fs.length).getD t 0 ≤ 100000000 := fun t => by
    by_cases ht : t < 13
    · rw [hOg t ht]; have := ov_in (fs := fs) (t := (t : Nat)) hxb; omega
    · have : (ovK 13 fs x fs.length).getD t 0 = 0 := by simp [List.getD, List.getElem?_eq_none (show (ovK 13 fs x fs.length).length ≤ t by omega)]
      omega
  have c74 : Pure tblW (fnv 74) [.ptr (some (bk, 0))] ((bk, .cells (bookC T v (AV.slc (some (bx, 0)) fs.length fs.length false 1) S) true) :: (bx, .cells (ints x) true) :: F) (.agg (ints (ovK 13 fs x fs.length))) := f74_ok hN (List.mem_cons_self ..) hr.cons.cons (RowI.lit (List.mem_cons_of_mem _ (List.mem_cons_self ..)) hxl.symm) hxr
  generalize hO : ovK 13 fs x fs.length = O at *
  have c75 : ∀ {b3 : Nat} {G : Hp}, Pure tblW (fnv 75) [.slc (some (b3, 0)) 13 13 true 0, fnv 76] ((b3, .cells (ints O) true) :: G) (.int .i64 (idxOf ovPos O)) := fun {b3 G} => f75_ok (RowI.lit (List.mem_cons_self ..) hOl.symm) (by omega)
  by_cases hneg : idxOf ovPos O < 0
  · have hall : ∀ t : Nat, t < T.toNat + 1 → ov fs x fs.length (t : Nat) ≤ 0 := fun t ht => by
      have h1 : O.any ovPos = false := by
        cases e : O.any ovPos with
        | false => rfl
        | true => have := (idxOf_any ovPos O).2 e; omega
      have h2 := (any_false_getD ovPos O 0).1 h1 t (by omega)
      rw [hOg t (by omega)] at h2
      have := of_decide_eq_false h2
      omega
    (repeat' (first | (first | refine Wo.nil ?_ | refine Wd.nil ?_ | ((first | refine Wo.cons ?_ | refine Wd.cons ?_); (try refine W1.go rfl rfl ?_); ((first | refine k1 ?_ | refine k2 ?_ | (refine isDst 12 ?_; refine W1.pure rfl rfl c74 ?_) | (refine isDst 3 ?_; refine W1.alloc (fun b3 hb3 => ?_)) | (refine isTo 3 ?_; refine W1.storeN (cs := ints O) (l := ints (List.replicate 13 0)) (l' := ints O) rfl rfl (by simp [hOl]) (List.mem_cons_self ..) (by unfold splice; simp [hOl]) .head (by simp) hb3 ?_) | (refine isDst 13 ?_; refine W1.slcAll rfl ?_) | (refine isDst 14 ?_; refine W1.pure rfl rfl c75 ?_) | (refine isDst 16 ?_; refine W1.cO ?_) | refine W1.auto ?_) <;> (try refine ⟨fun _ => rfl, ?_⟩)))) | (first | refine Ws.seq ?_ | refine Ws.region ?_ | refine Ws.draw (fun bd hbd => ?_) | refine Ws.cond rfl ?_ | refine Ws.skip ?_ | refine Ws.scope ?_ | refine Ws.block ?_ | refine Ws.exit ?_ | refine Ws.ret ?_)))
    exact FnEnd.ret (F' := (bk, .cells (bookC T v (AV.slc (some (bx, 0)) fs.length fs.length false 1) S) true) :: (bx, .cells (ints x) true) :: F) (vs := [_]) (.tmp rfl .nil) (.cons _ (List.Sublist.refl _)) ⟨x, S, [], hxr, hS, .yes (all_zero hN hxr hall), rfl⟩
  · obtain ⟨aa, haa, hidx, hpp⟩ := idxOf_spec (show 0 ≤ idxOf ovPos O by omega)
    rw [hidx] at c75
    rw [hOl] at haa
    have hpos : 0 < O.getD aa 0 := of_decide_eq_true hpp
    have haT : (aa : Int) ≤ T := by
      refine Int.not_lt.1 fun h => ?_
      have := ov_out (x := x) hN h (Nat.le_refl fs.length)
      rw [← hOg aa haa] at this
      omega
    (repeat' (first | (first | refine Wo.nil ?_ | refine Wd.nil ?_ | ((first | refine Wo.cons ?_ | refine Wd.cons ?_); (try refine W1.go rfl rfl ?_); ((first | refine k1 ?_ | refine k2 ?_ | (refine isDst 12 ?_; refine W1.pure rfl rfl c74 ?_) | (refine isDst 3 ?_; refine W1.alloc (fun b3 hb3 => ?_)) | (refine isTo 3 ?_; refine W1.storeN (cs := ints O) (l := ints (List.replicate 13 0)) (l' := ints O) rfl rfl (by simp [hOl]) (List.mem_cons_self ..) (by unfold splice; simp [hOl]) .head (by simp) hb3 ?_) | (refine isDst 13 ?_; refine W1.slcAll rfl ?_) | (refine isDst 14 ?_; refine W1.pure rfl rfl c75 ?_) | (refine isDst 16 ?_; refine W1.cO ?_) | (refine isDst 19 ?_; refine W1.iaddrA aa rfl rfl rfl haa ?_) | (refine isDst 20 ?_; refine W1.loadI (j := aa) (xs := O) rfl (by omega) (List.mem_cons_self ..) (by omega) ?_) | (refine isDst 21 ?_; refine W1.loadA rfl (List.mem_cons_self ..) (by simp [hOl]) ?_) | refine W1.auto ?_) <;> (try refine ⟨fun _ => rfl, ?_⟩)))) | (first | refine Ws.seq ?_ | refine Ws.region ?_ | refine Ws.draw (fun bd hbd => ?_) | refine Ws.cond rfl ?_ | refine Ws.skip ?_ | refine Ws.scope ?_ | refine Ws.block ?_ | refine Ws.exit ?_ | refine Ws.ret ?_)))
    refine Ws.fresh (l := (6, .int .i64 (O.getD aa 0)) :: (22, .int .i64 0) :: [(0, .ptr (some (bk, 0))), (4, .int .i64 (aa : Nat)), (5, .fn (.func 77) [] [.ptr (some (b3, 0))]), (21, .agg (ints O))]) ⟨rfl, rfl, rfl, rfl, rfl, rfl, trivial⟩ (fun B3 => ?_)
    refine (f56_min hOl hpos hOb).mono ?_
    rintro r E' G ⟨rfl, m, m0, m1, m2, hE', rfl⟩
    refine Ws.fresh hE' (fun B4 => ?_)
    have hb := hOb aa
    have h78 := f78_ok (lo := lo) (T := T) (fs := fs) (x := x) (S := S) (but := -1) (a := (aa : Nat)) (most := m) (g := lackB O) (v := v) (gv := .fn (.func 77) [] [.ptr (some (b3, 0))]) (F := (b3, .cells (ints O) true) :: F) (bk := bk) (bx := bx) hN hr.cons hxr hbk hbx hS ⟨by omega, haT⟩ ⟨m0, by omega⟩ (fun H hs t h1 h2 => f77_ok (hs.subset (List.mem_cons_self ..)) hOl (by omega))
    rw [hxl] at h78
    have h78' := Fn.perm (F := (b3, .cells (ints O) true) :: (bk, .cells (bookC T v (AV.slc (some (bx, 0)) fs.length fs.length false 1) S) true) :: (bx, .cells (ints x) true) :: F) (List.perm_middle (l₁ := [_, _])) h78
    (repeat' (first | (first | refine Wo.nil ?_ | refine Wd.nil ?_ | ((first | refine Wo.cons ?_ | refine Wd.cons ?_); (try refine W1.go rfl rfl ?_); ((first | refine k1 ?_ | refine k2 ?_ | (refine isDst 12 ?_; refine W1.pure rfl rfl c74 ?_) | (refine isDst 3 ?_; refine W1.alloc (fun b3 hb3 => ?_)) | (refine isTo 3 ?_; refine W1.storeN (cs := ints O) (l := ints (List.replicate 13 0)) (l' := ints O) rfl rfl (by simp [hOl]) (List.mem_cons_self ..) (by unfold splice; simp [hOl]) .head (by simp) hb3 ?_) | (refine isDst 13 ?_; refine W1.slcAll rfl ?_) | (refine isDst 14 ?_; refine W1.pure rfl rfl c75 ?_) | (refine isDst 16 ?_; refine W1.cO ?_) | (refine isDst 19 ?_; refine W1.iaddrA aa rfl rfl rfl haa ?_) | (refine isDst 20 ?_; refine W1.loadI (j := aa) (xs := O) rfl (by omega) (List.mem_cons_self ..) (by omega) ?_) | (refine isDst 21 ?_; refine W1.loadA rfl (List.mem_cons_self ..) (by simp [hOl]) ?_) | refine W1.auto ?_) <;> (try refine ⟨fun _ => rfl, ?_⟩)))) | (first | refine Ws.seq ?_ | refine Ws.region ?_ | refine Ws.draw (fun bd hbd => ?_) | refine Ws.cond rfl ?_ | refine Ws.skip ?_ | refine Ws.scope ?_ | refine Ws.block ?_ | refine Ws.exit ?_ | refine Ws.ret ?_)))
    refine Wo.cons ?_
    refine W1.callM rfl rfl (h78'.mono ?_)
    rintro _ _ ⟨mm, e, x', S', rfl, hxl', hS', hF, rfl⟩
    have hxl2 : x'.length = fs.length := by omega
    cases hF with
    | @yes mm e x' S' he hg hm hr' ho hbut =>
      have hmp : 0 < mm := hm.1
      (repeat' (first | (first | refine Wo.nil ?_ | refine Wd.nil ?_ | ((first | refine Wo.cons ?_ | refine Wd.cons ?_); (try refine W1.go rfl rfl ?_); ((first | refine k1 ?_ | refine k2 ?_ | (refine isDst 41 ?_; refine W1.cO ?_) | refine W1.auto ?_) <;> (try refine ⟨fun _ => rfl, ?_⟩)))) | (first | refine Ws.seq ?_ | refine Ws.region ?_ | refine Ws.draw (fun bd hbd => ?_) | refine Ws.cond rfl ?_ | refine Ws.skip ?_ | refine Ws.scope ?_ | refine Ws.block ?_ | refine Ws.exit ?_ | refine Ws.ret ?_)))
      have hle : lackB O e = true := hg
      have hOe : O.getD e.toNat 0 < 0 := of_decide_eq_true hle
      have e1 : ((e.toNat : Nat) : Int) = e := by omega
      have hme := m2 e.toNat (by omega) hOe
      rw [hOg e.toNat (by omega), e1] at hme
      have hma := m1
      rw [hOg aa haa] at hma
      have hlt := posS_less (T := T) (m := mm) (e := e) (a := (aa : Nat)) ⟨by omega, haT⟩ hmp (by omega) (by omega) ho
      have hnn := posS_nn (T := T) (fs := fs) (x := x')
      exact ⟨(x', S'), ⟨rfl, trivial⟩, .cons_cons _ (.cons_cons _ (.cons _ (List.Sublist.refl _))), ⟨hr', hS'⟩, by show (posS T fs x').toNat < (posS T fs x).toNat; omega⟩
    | @no S' c ha hg =>
      have hmem : (bk, ABlk.cells (bookC T v (AV.slc (some (bx, 0)) fs.length fs.length false 1) S') true) ∈ (bk, ABlk.cells (bookC T v (AV.slc (some (bx, 0)) fs.length fs.length false 1) S') true) :: (bx, .cells (ints x) true) :: (b3, .cells (ints O) true) :: F := List.mem_cons_self ..
      (repeat' (first | (first | refine Wo.nil ?_ | refine Wd.nil ?_ | ((first | refine Wo.cons ?_ | refine Wd.cons ?_); (try refine W1.go rfl rfl ?_); ((first | refine k1 ?_ | refine k2 ?_ | (refine isDst 41 ?_; refine W1.cO ?_) | (refine isDst 44 ?_; refine W1.callM rfl rfl ((f80_ok hT hS' hmem).mono ?_); rintro rs _ ⟨F1, ho1, rfl⟩) | (refine isDst 45 ?_; refine W1.callM rfl rfl ((f79_ok hT (List.mem_append_right _ hmem) (ho1.rowI (List.subset_append_left _ _)) (by have := pickN_len (seenB S') (T.toNat + 1); rw [pickL_N]; omega)).mono ?_); rintro rs2 _ ⟨F2, ho2, rfl⟩) | refine W1.auto ?_) <;> (try refine ⟨fun _ => rfl, ?_⟩)))) | (first | refine Ws.seq ?_ | refine Ws.region ?_ | refine Ws.draw (fun bd hbd => ?_) | refine Ws.cond rfl ?_ | refine Ws.skip ?_ | refine Ws.scope ?_ | refine Ws.block ?_ | refine Ws.exit ?_ | refine Ws.ret ?_)))
      refine FnEnd.ret (F' := F2 ++ ((bk, .cells (bookC T v (AV.slc (some (bx, 0)) fs.length fs.length false 1) S') true) :: (bx, .cells (ints x) true) :: F)) (vs := [_]) (.tmp rfl .nil) (List.Sublist.append (List.Sublist.refl _) (List.Sublist.trans (.cons_cons _ (.cons_cons _ (.cons _ (List.Sublist.refl _)))) (List.sublist_append_right _ _))) ⟨x, S', F2, hxr, hS', .no ho2 ?_, rfl⟩
      rw [shB_congr (S' := fun t => !seenB S' t) hN.ends fun t h1 h2 => by rw [hasT_pick (by omega) _ ⟨h1, h2⟩]]
      refine c.lack (a := (aa : Nat)) hN hxr ha ⟨by omega, haT⟩ (by rw [← hOg aa haa]; exact hpos) fun t h1 h2 h3 => ?_
      have := of_decide_eq_false (hg t h1 h2 h3)
      rw [hOg t.toNat (by omega), show ((t.toNat : Nat) : Int) = t by omega] at this
      omega
end Go.Ax
